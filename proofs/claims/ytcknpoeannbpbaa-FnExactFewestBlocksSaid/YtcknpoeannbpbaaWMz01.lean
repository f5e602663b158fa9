/- Printed walks: spec.l00In, spec.l04Open, impl.in, impl.ValidMaze$1, slices.IndexFunc[[]int64,int64], slices.ContainsFunc[[]int64,int64], impl.ValidMaze, (*impl.Maze).has, (*impl.Maze).price, (*impl.Maze).open, impl.IsOpen, impl.size, impl.far, impl.blockOk, impl.next, slices.Clone[[]impl.Point,impl.Point], slices.Compact[[]impl.Point,impl.Point], impl.sorted, impl.pointsOf, (*impl.flow).beside, (*impl.flow).room, (*impl.flow).search, (*impl.flow).push. -/
import Derived.Test.YtcknpoeannbpbaaProg
import Derived.Test.YtcknpoeannbpbaaMod
import Derived.Test.YtcknpoeannbpbaaEqs
import Derived.Test.YtcknpoeannbpbaaSrtC
import Derived.Test.YtcknpoeannbpbaaGte
set_option linter.unusedSimpArgs false
set_option linter.unusedVariables false
namespace Go.Proofs.Ytcknpoeannbpbaa
open Go.RowKit
attribute [local irreducible] wS cW eX wH

theorem ent12 : Ent Try.prog 12 := fun _ => by kernel_rfl
theorem ent31 : Ent Try.prog 31 := fun _ => by kernel_rfl
theorem ent32 : Ent Try.prog 32 := fun _ => by kernel_rfl
theorem ent33 : Ent Try.prog 33 := fun _ => by kernel_rfl
theorem ent46 : Ent Try.prog 46 := fun _ => by kernel_rfl
theorem ent50 : Ent Try.prog 50 := fun _ => by kernel_rfl
theorem ent51 : Ent Try.prog 51 := fun _ => by kernel_rfl
theorem ent52 : Ent Try.prog 52 := fun _ => by kernel_rfl
theorem ent53 : Ent Try.prog 53 := fun _ => by kernel_rfl
theorem ent54 : Ent Try.prog 54 := fun _ => by kernel_rfl
theorem ent55 : Ent Try.prog 55 := fun _ => by kernel_rfl
theorem ent56 : Ent Try.prog 56 := fun _ => by kernel_rfl
theorem ent66 : Ent Try.prog 66 := fun _ => by kernel_rfl
theorem ent67 : Ent Try.prog 67 := fun _ => by kernel_rfl
theorem ent68 : Ent Try.prog 68 := fun _ => by kernel_rfl
theorem ent69 : Ent Try.prog 69 := fun _ => by kernel_rfl
theorem ent73 : Ent Try.prog 73 := fun _ => by kernel_rfl
theorem ent74 : Ent Try.prog 74 := fun _ => by kernel_rfl
theorem ent76 : Ent Try.prog 76 := fun _ => by kernel_rfl
theorem vt4 : VarTy Try.prog 4 1 false := ⟨by kernel_rfl, by kernel_rfl⟩
theorem vt24 : VarTy Try.prog 24 1 false := ⟨by kernel_rfl, by kernel_rfl⟩
theorem vt26 : VarTy Try.prog 26 1 true := ⟨by kernel_rfl, by kernel_rfl⟩
theorem vt29 : VarTy Try.prog 29 2 true := ⟨by kernel_rfl, by kernel_rfl⟩
theorem vt38 : VarTy Try.prog 38 1 false := ⟨by kernel_rfl, by kernel_rfl⟩
theorem vt56 : VarTy Try.prog 56 1 false := ⟨by kernel_rfl, by kernel_rfl⟩
theorem vt84 : VarTy Try.prog 84 1 false := ⟨by kernel_rfl, by kernel_rfl⟩
theorem vt92 : VarTy Try.prog 92 3 true := ⟨by kernel_rfl, by kernel_rfl⟩
theorem sl24 : SlTy Try.prog 24 38 1 := ⟨Try.underlying24, by kernel_rfl⟩
theorem sl31 : SlTy Try.prog 31 29 2 := ⟨Try.underlying31, by kernel_rfl⟩
theorem sl38 : SlTy Try.prog 38 2 1 := ⟨Try.underlying38, by kernel_rfl⟩
theorem sl107 : SlTy Try.prog 107 92 3 := ⟨Try.underlying107, by kernel_rfl⟩
theorem el31 : ElTy Try.prog 31 29 2 (.agg #[.int .i64 (0), .int .i64 (0)]) := ElTy.mk' Try.underlying31 (by kernel_rfl) (by rfl)
theorem el107 : ElTy Try.prog 107 92 3 (.agg #[.int .i64 (0), .int .i64 (0), .bool (false)]) := ElTy.mk' Try.underlying107 (by kernel_rfl) (by rfl)
theorem mk84 : MK Try.prog 110 ekIIBIIB okIIBIIB := by
  refine mkDeep (m := 4) (n := 159) laidOut (by omega) (of_decide_eq_true (by kernel_rfl)) (by kernel_rfl) (by kernel_rfl) (by kernel_rfl) (by kernel_rfl) (fun k hk => ?_) injIIBIIB
  obtain ⟨h0, h1, h2, h3⟩ := okIIBIIB_t hk
  exact ⟨by kernel_rfl, _, (kl_array2 (cs := [.int .i64 k.1, .int .i64 k.2.1, .bool k.2.2.1, .int .i64 k.2.2.2.1, .int .i64 k.2.2.2.2.1, .bool k.2.2.2.2.2]) (c0 := [.int .i64 k.1, .int .i64 k.2.1, .bool k.2.2.1]) (c1 := [.int .i64 k.2.2.2.1, .int .i64 k.2.2.2.2.1, .bool k.2.2.2.2.2]) Try.underlying110 (by kernel_rfl) (by kernel_rfl) (by kernel_rfl) (kl_struct2 (cs := [.int .i64 k.1, .int .i64 k.2.1, .bool k.2.2.1]) (c0 := [.int .i64 k.1, .int .i64 k.2.1]) (c1 := [.bool k.2.2.1]) Try.underlying92 (by kernel_rfl) (by kernel_rfl) (by kernel_rfl) (by kernel_rfl) (kl_struct2 (cs := [.int .i64 k.1, .int .i64 k.2.1]) (c0 := [.int .i64 k.1]) (c1 := [.int .i64 k.2.1]) Try.underlying29 (by kernel_rfl) (by kernel_rfl) (by kernel_rfl) (by kernel_rfl) (kl_int Try.underlying2 h0) (kl_int Try.underlying2 h1)) (kl_bool Try.underlying4)) (kl_struct2 (cs := [.int .i64 k.2.2.2.1, .int .i64 k.2.2.2.2.1, .bool k.2.2.2.2.2]) (c0 := [.int .i64 k.2.2.2.1, .int .i64 k.2.2.2.2.1]) (c1 := [.bool k.2.2.2.2.2]) Try.underlying92 (by kernel_rfl) (by kernel_rfl) (by kernel_rfl) (by kernel_rfl) (kl_struct2 (cs := [.int .i64 k.2.2.2.1, .int .i64 k.2.2.2.2.1]) (c0 := [.int .i64 k.2.2.2.1]) (c1 := [.int .i64 k.2.2.2.2.1]) Try.underlying29 (by kernel_rfl) (by kernel_rfl) (by kernel_rfl) (by kernel_rfl) (kl_int Try.underlying2 h2) (kl_int Try.underlying2 h3)) (kl_bool Try.underlying4)))⟩
theorem mp84 : MpTy Try.prog 84 110 4 (vB false) := ⟨Try.underlying84, by kernel_rfl⟩
theorem mk87 : MK Try.prog 92 ekIIB okIIB := by
  refine mkDeep (m := 4) (n := 159) laidOut (by omega) (of_decide_eq_true (by kernel_rfl)) (by kernel_rfl) (by kernel_rfl) (by kernel_rfl) (by kernel_rfl) (fun k hk => ?_) injIIB
  obtain ⟨h0, h1⟩ := okIIB_t hk
  exact ⟨by kernel_rfl, _, (kl_struct2 (cs := [.int .i64 k.1, .int .i64 k.2.1, .bool k.2.2]) (c0 := [.int .i64 k.1, .int .i64 k.2.1]) (c1 := [.bool k.2.2]) Try.underlying92 (by kernel_rfl) (by kernel_rfl) (by kernel_rfl) (by kernel_rfl) (kl_struct2 (cs := [.int .i64 k.1, .int .i64 k.2.1]) (c0 := [.int .i64 k.1]) (c1 := [.int .i64 k.2.1]) Try.underlying29 (by kernel_rfl) (by kernel_rfl) (by kernel_rfl) (by kernel_rfl) (kl_int Try.underlying2 h0) (kl_int Try.underlying2 h1)) (kl_bool Try.underlying4))⟩
theorem mp87 : MpTy Try.prog 87 92 92 (ekIIB (0, 0, false)) := ⟨Try.underlying87, by kernel_rfl⟩
theorem mk90 : MK Try.prog 29 ekII okII := by
  refine mkDeep (m := 4) (n := 159) laidOut (by omega) (of_decide_eq_true (by kernel_rfl)) (by kernel_rfl) (by kernel_rfl) (by kernel_rfl) (by kernel_rfl) (fun k hk => ?_) injII
  obtain ⟨h0, h1⟩ := okII_t hk
  exact ⟨by kernel_rfl, _, (kl_struct2 (cs := [.int .i64 k.1, .int .i64 k.2]) (c0 := [.int .i64 k.1]) (c1 := [.int .i64 k.2]) Try.underlying29 (by kernel_rfl) (by kernel_rfl) (by kernel_rfl) (by kernel_rfl) (kl_int Try.underlying2 h0) (kl_int Try.underlying2 h1))⟩
theorem mp90 : MpTy Try.prog 90 29 4 (vB false) := ⟨Try.underlying90, by kernel_rfl⟩
theorem eq29 : ∃ f0 f1, EqTy Try.prog 29 f0 f1 := ⟨_, _, Try.underlying29, by kernel_rfl, by kernel_rfl, by kernel_rfl, fun w => pureRun_run (by kernel_rfl) w, fun w => pureRun_run (by kernel_rfl) w, rfl, rfl, Try.underlying2, Try.underlying2, by kernel_rfl⟩
theorem eq92 : ∃ f0 f1 g0 g1, EqTyG Try.prog 92 f0 f1 g0 g1 := ⟨_, _, _, _, Try.underlying92, by kernel_rfl, by kernel_rfl, by kernel_rfl, fun w => pureRun_run (by kernel_rfl) w, fun w => pureRun_run (by kernel_rfl) w, fun w => pureRun_run (by kernel_rfl) w, rfl, rfl, ⟨Try.underlying29, by kernel_rfl, by kernel_rfl, by kernel_rfl, fun w => pureRun_run (by kernel_rfl) w, fun w => pureRun_run (by kernel_rfl) w, rfl, rfl, Try.underlying2, Try.underlying2, by kernel_rfl⟩, Try.underlying4, by kernel_rfl⟩
theorem sz29 : pureRun Try.prog (sizeOf 29) = some 2 := by kernel_rfl
theorem sz92 : pureRun Try.prog (sizeOf 92) = some 3 := by kernel_rfl

set_option maxRecDepth 100000 in
/-- spec.l00In -/
theorem c_spec_l00In {w0 : World} {p0 : Int} {p1 : Int} {p2 : Int} {r : (Bool)} (hm : m_spec_l00In p0 p1 p2 = some r)  :
  Calls Try.prog 46 #[.int .i64 (p0), .int .i64 (p1), .int .i64 (p2)] w0 fun e w' => e = .returned (.bool (r)) ∧ Chg [] w0 w' := by
 have hB : Chg [] w0 w0 := Chg.refl _ _
 have hZ := Nat.le_refl w0.heap.size
 unfold m_spec_l00In at hm
 refine enterE (N := 15) Try.func46 (by rfl) Try.ntmps46 (by simp) [(0, .int .i64 (p0)), (1, .int .i64 (p1)), (2, .int .i64 (p2))] (by rfl) (by kernel_rfl) (fun a => ?_)
 refine cW_seq ?_
 refine cW_region ?_
 refine wS_pure 1 [(6, .bool (false))] (by kernel_rfl) ?_
 refine wS_end (by rfl) ?_
 refine eX_then ?_
 refine cW_seq ?_
 refine cW_region ?_
 refine wS_pure 4 [(10, .bool (decide (p0 ≥ p1))), (9, .bool (decide (p0 ≥ p1))), (8, .int .i64 (p1)), (7, .int .i64 (p0))] (by kernel_rfl) ?_
 refine wS_bool (decide (p0 ≥ p1)) (fun hb1 => ?_) (fun hb1 => ?_)
 ·have hm := condT hb1 hm
  rewrite [hb1]
  refine wS_pure 5 [(6, .bool (decide (p0 ≤ p2))), (14, .bool (decide (p0 ≤ p2))), (13, .bool (decide (p0 ≤ p2))), (12, .int .i64 (p2)), (11, .int .i64 (p0))] (by kernel_rfl) ?_
  refine wS_end (by rfl) ?_
  refine eX_then ?_
  refine cW_ret ?_
  have hq : (some (decide (p0 ≤ p2)) : Option ((Bool))) = some _ := hm
  replace hq := someE hq
  subst hq
  refine eX_ret (vs := [.bool (decide (p0 ≤ p2))]) [.tmp 6] (by rfl) ⟨by (show lkE _ _ _ = _); kernel_rfl, trivial⟩ ?_
  exact ⟨rfl, hB⟩
 ·have hm := condF hb1 hm
  rewrite [hb1]
  refine wS_pure 5 [(6, .bool (false)), (14, .bool (false)), (13, undef), (12, undef), (11, undef)] (by kernel_rfl) ?_
  refine wS_end (by rfl) ?_
  refine eX_then ?_
  refine cW_ret ?_
  have hq : (some false : Option ((Bool))) = some _ := hm
  replace hq := someE hq
  subst hq
  refine eX_ret (vs := [.bool (false)]) [.tmp 6] (by rfl) ⟨by (show lkE _ _ _ = _); kernel_rfl, trivial⟩ ?_
  exact ⟨rfl, hB⟩

set_option maxRecDepth 100000 in
/-- spec.l04Open -/
theorem c_spec_l04Open_bimplMaze {w0 : World} {l0_0 : List (List (Int))} {A0_0 : Option Addr} {cap0_0 : Nat} {fp0_0 : List Nat} {b0 : Nat} {p1_0 : Int} {p1_1 : Int} {r : (Bool)} (hm : m_spec_l04Open_bimplMaze l0_0 p1_0 p1_1 = some r) (F0_0 : SlR 1 encI w0 fp0_0 A0_0 l0_0) (F0 : Cl w0 b0 26 [.slice A0_0 (l0_0).length cap0_0]) :
  Calls Try.prog 27 #[.pointer (some ⟨b0, 0, none⟩), .agg #[.int .i64 (p1_0), .int .i64 (p1_1)]] w0 fun e w' => e = .returned (.bool (r)) ∧ Chg [] w0 w' := by
 have L0_0 := F0_0.low
 have L0 := lt1 F0.lt
 have hB : Chg [] w0 w0 := Chg.refl _ _
 have hZ := Nat.le_refl w0.heap.size
 unfold m_spec_l04Open_bimplMaze at hm
 refine enterE (N := 42) Try.func27 (by rfl) Try.ntmps27 (by simp) [(0, .pointer (some ⟨b0, 0, none⟩)), (1, .agg #[.int .i64 (p1_0), .int .i64 (p1_1)])] (by rfl) (by kernel_rfl) (fun a => ?_)
 refine cW_seq ?_
 refine cW_region ?_
 refine wS_box (d := 3) (T := 29) (x := .agg #[.int .i64 (p1_0), .int .i64 (p1_1)]) (by kernel_rfl) ?_
 intro b1 w1 G1 F1 hc1
 replace F1 : Cl w1 b1 29 [.int .i64 (p1_0), .int .i64 (p1_1)] := F1
 replace F0_0 := F0_0.chg hc1 Dj.nil
 replace F0 := F0.chg hc1 notNil
 replace hB := hB.inS hc1 inNil
 replace G1 := Nat.le_trans hZ G1
 replace hZ := Nat.le_trans hZ hc1.size
 refine wS_pure 1 [(4, .bool (false))] (by kernel_rfl) ?_
 refine wS_end (by rfl) ?_
 refine eX_then ?_
 refine cW_seq ?_
 refine cW_drawnTail [] 33 (by kernel_rfl) (by kernel_rfl) (fun w2 hc2 => ?_)
 replace F0_0 := F0_0.chg hc2 Dj.nil
 replace F0 := F0.chg hc2 notNil
 replace F1 := F1.chg hc2 notNil
 replace hB := hB.inS hc2 inNil
 replace hZ := Nat.le_trans hZ hc2.size
 have hS := Chg.refl [] w2
 have Z1 := F0_0
 have Z2 := F0
 have Z3 := F1
 refine wH_take [0] [0] [(5, .pointer (some ⟨b1, 1, none⟩))] (by kernel_rfl) (qT (qT qZ)) (by kernel_rfl) ?_
 refine wH_load1 (i := 1) (d := 6) (T := 2) (ad := ⟨b1, 1, none⟩) (v := .int .i64 (p1_1)) (by kernel_rfl) (qT (qT qZ)) (by kernel_rfl) (by kernel_rfl) vt2 (fun W hW => (Z3.chg hW notNil).cell 1) ?_
 refine wH_take [2, 3, 4] [4, 3, 2, 1, 0] [(9, .pointer (some ⟨b0, 0, none⟩)), (8, .pointer (some ⟨b0, 0, none⟩)), (7, .pointer (some ⟨b0, 0, none⟩))] (by kernel_rfl) (qT (qT qZ)) (by kernel_rfl) ?_
 refine wH_load1 (i := 5) (d := 10) (T := 24) (ad := ⟨b0, 0, none⟩) (v := .slice A0_0 (l0_0).length cap0_0) (by kernel_rfl) (qT (qT qZ)) (by kernel_rfl) (by kernel_rfl) vt24 (fun W hW => (Z2.chg hW notNil).cell 0) ?_
 refine wH_take [6, 7] [7, 6, 5, 4, 3, 2, 1, 0] [(12, .int .i64 (wr ((((l0_0).length : Int)) - 1))), (11, .int .i64 (((l0_0).length : Int)))] (by kernel_rfl) (qT (qT qZ)) (by kernel_rfl) ?_
 refine wH_all [8] (by rfl) (by kernel_rfl) (by simp) ⟨⟨by kernel_rfl, ?_⟩, trivial⟩
 obtain ⟨y1, hy1, hm⟩ := bindE hm
 refine wS_calls (d := 13) (f := 46) (vs := [.int .i64 (p1_1), .int .i64 (0), .int .i64 (wr ((((l0_0).length : Int)) - 1))]) (by kernel_rfl) ent46 (c_spec_l00In hy1) ?_
 rintro _ w3 ⟨rfl, hc3⟩
 replace F0_0 := F0_0.chg hc3 Dj.nil
 replace F0 := F0.chg hc3 notNil
 replace F1 := F1.chg hc3 notNil
 replace hB := hB.inS hc3 inNil
 have hSz := hS
 replace hS := hS.inS hc3 inNil
 replace hZ := Nat.le_trans hZ hc3.size
 refine ⟨.bool (y1), rfl, ?_⟩
 refine wS_end (by kernel_rfl) ?_
 refine eX_KH hS ?_
 refine wH_take [9] [9, 8, 7, 6, 5, 4, 3, 2, 1, 0] [(14, .bool (y1))] (by kernel_rfl) (qT (qT qZ)) (by kernel_rfl) ?_
 refine wH_bool y1 (fun hb1 => ?_) (fun hb1 => ?_)
 ·have hm := condT hb1 hm
  rewrite [hb1]
  refine wH_take [10] [10, 9, 8, 7, 6, 5, 4, 3, 2, 1, 0] [(15, .pointer (some ⟨b1, 0, none⟩))] (by kernel_rfl) (qT (qT qZ)) (by kernel_rfl) ?_
  refine wH_load1 (i := 11) (d := 16) (T := 2) (ad := ⟨b1, 0, none⟩) (v := .int .i64 (p1_0)) (by kernel_rfl) (qT (qT qZ)) (by kernel_rfl) (by kernel_rfl) vt2 (fun W hW => (Z3.chg hW notNil).cell 0) ?_
  refine wH_take [12, 13, 14] [14, 13, 12, 11, 10, 9, 8, 7, 6, 5, 4, 3, 2, 1, 0] [(19, .pointer (some ⟨b0, 0, none⟩)), (18, .pointer (some ⟨b0, 0, none⟩)), (17, .pointer (some ⟨b0, 0, none⟩))] (by kernel_rfl) (qT (qT qZ)) (by kernel_rfl) ?_
  refine wH_load1 (i := 15) (d := 20) (T := 24) (ad := ⟨b0, 0, none⟩) (v := .slice A0_0 (l0_0).length cap0_0) (by kernel_rfl) (qT (qT qZ)) (by kernel_rfl) (by kernel_rfl) vt24 (fun W hW => (Z2.chg hW notNil).cell 0) ?_
  obtain ⟨x1, hx1, hm⟩ := bindE hm
  refine wH_idx (i := 16) (d := 21) (T := 24) (A := A0_0) (n := (l0_0).length) (cap := cap0_0) (kd := .i64) (m := 0) (by kernel_rfl) (qT (qT qZ)) (by kernel_rfl) (by kernel_rfl) sl24 (F0_0.is hx1) ?_
  obtain ⟨A1, cap1, hc4, F2, K1⟩ := SlR.row Z1 hx1
  have F3 := F2.chg hS Dj.nil
  refine wH_load1 (i := 17) (d := 22) (T := 38) (ad := (elA A0_0 1 (0) 0)) (v := .slice A1 (x1).length cap1) (by kernel_rfl) (qT (qT qZ)) (by kernel_rfl) (by kernel_rfl) vt38 (fun W hW => hW.keep hc4) ?_
  refine wH_take [18, 19] [19, 18, 17, 16, 15, 14, 13, 12, 11, 10, 9, 8, 7, 6, 5, 4, 3, 2, 1, 0] [(24, .int .i64 (wr ((((x1).length : Int)) - 1))), (23, .int .i64 (((x1).length : Int)))] (by kernel_rfl) (qT (qT qZ)) (by kernel_rfl) ?_
  refine wH_all [20] (by rfl) (by kernel_rfl) (by simp) ⟨⟨by kernel_rfl, ?_⟩, trivial⟩
  obtain ⟨y2, hy2, hm⟩ := bindE hm
  refine wS_calls (d := 25) (f := 46) (vs := [.int .i64 (p1_0), .int .i64 (0), .int .i64 (wr ((((x1).length : Int)) - 1))]) (by kernel_rfl) ent46 (c_spec_l00In hy2) ?_
  rintro _ w4 ⟨rfl, hc5⟩
  replace F0_0 := F0_0.chg hc5 Dj.nil
  replace F0 := F0.chg hc5 notNil
  replace F1 := F1.chg hc5 notNil
  replace F3 := F3.chg hc5 Dj.nil
  replace hB := hB.inS hc5 inNil
  have hSz := hS
  replace hS := hS.inS hc5 inNil
  replace hZ := Nat.le_trans hZ hc5.size
  refine ⟨.bool (y2), rfl, ?_⟩
  refine wS_end (by kernel_rfl) ?_
  refine eX_KH hS ?_
  refine wH_take [21, 22] [22, 21, 20, 19, 18, 17, 16, 15, 14, 13, 12, 11, 10, 9, 8, 7, 6, 5, 4, 3, 2, 1, 0] [(27, .bool (y2)), (26, .bool (y2))] (by kernel_rfl) (qT (qT qZ)) (by kernel_rfl) ?_
  refine wH_bool y2 (fun hb2 => ?_) (fun hb2 => ?_)
  ·have hm := condT hb2 hm
   rewrite [hb2]
   refine wH_take [23, 24, 25] [25, 24, 23, 22, 21, 20, 19, 18, 17, 16, 15, 14, 13, 12, 11, 10, 9, 8, 7, 6, 5, 4, 3, 2, 1, 0] [(30, .pointer (some ⟨b0, 0, none⟩)), (29, .pointer (some ⟨b0, 0, none⟩)), (28, .pointer (some ⟨b0, 0, none⟩))] (by kernel_rfl) (qT (qT qZ)) (by kernel_rfl) ?_
   refine wH_load1 (i := 26) (d := 31) (T := 24) (ad := ⟨b0, 0, none⟩) (v := .slice A0_0 (l0_0).length cap0_0) (by kernel_rfl) (qT (qT qZ)) (by kernel_rfl) (by kernel_rfl) vt24 (fun W hW => (Z2.chg hW notNil).cell 0) ?_
   refine wH_take [27] [27, 26, 25, 24, 23, 22, 21, 20, 19, 18, 17, 16, 15, 14, 13, 12, 11, 10, 9, 8, 7, 6, 5, 4, 3, 2, 1, 0] [(32, .pointer (some ⟨b1, 1, none⟩))] (by kernel_rfl) (qT (qT qZ)) (by kernel_rfl) ?_
   refine wH_load1 (i := 28) (d := 33) (T := 2) (ad := ⟨b1, 1, none⟩) (v := .int .i64 (p1_1)) (by kernel_rfl) (qT (qT qZ)) (by kernel_rfl) (by kernel_rfl) vt2 (fun W hW => (Z3.chg hW notNil).cell 1) ?_
   obtain ⟨x2, hx2, hm⟩ := bindE hm
   refine wH_idx (i := 29) (d := 34) (T := 24) (A := A0_0) (n := (l0_0).length) (cap := cap0_0) (kd := .i64) (m := p1_1) (by kernel_rfl) (qT (qT qZ)) (by kernel_rfl) (by kernel_rfl) sl24 (F0_0.is hx2) ?_
   obtain ⟨A2, cap2, hc6, F4, K2⟩ := SlR.row Z1 hx2
   have F5 := F4.chg hS Dj.nil
   refine wH_load1 (i := 30) (d := 35) (T := 38) (ad := (elA A0_0 1 (p1_1) 0)) (v := .slice A2 (x2).length cap2) (by kernel_rfl) (qT (qT qZ)) (by kernel_rfl) (by kernel_rfl) vt38 (fun W hW => hW.keep hc6) ?_
   refine wH_take [31] [31, 30, 29, 28, 27, 26, 25, 24, 23, 22, 21, 20, 19, 18, 17, 16, 15, 14, 13, 12, 11, 10, 9, 8, 7, 6, 5, 4, 3, 2, 1, 0] [(36, .pointer (some ⟨b1, 0, none⟩))] (by kernel_rfl) (qT (qT qZ)) (by kernel_rfl) ?_
   refine wH_load1 (i := 32) (d := 37) (T := 2) (ad := ⟨b1, 0, none⟩) (v := .int .i64 (p1_0)) (by kernel_rfl) (qT (qT qZ)) (by kernel_rfl) (by kernel_rfl) vt2 (fun W hW => (Z3.chg hW notNil).cell 0) ?_
   refine wH_done (by kernel_rfl) ?_
   refine eX_tail ?_
   obtain ⟨x3, hx3, hm⟩ := bindE hm
   refine wS_idx (d := 38) (T := 38) (A := A2) (n := (x2).length) (cap := cap2) (kd := .i64) (m := p1_0) (by kernel_rfl) sl38 (F5.is hx3) ?_
   refine wS_load1 (d := 39) (T := 2) (ad := (elA A2 1 (p1_0) 0)) (v := .int .i64 (x3)) (by kernel_rfl) vt2 (Sl.cell F5 hx3 0 (by rfl)) ?_
   refine wS_pure 3 [(4, .bool (decide (x3 > 0))), (41, .bool (decide (x3 > 0))), (40, .bool (decide (x3 > 0)))] (by kernel_rfl) ?_
   refine wS_end (by rfl) ?_
   refine eX_then ?_
   refine cW_prune [(4, .bool (decide (x3 > 0)))] (by kernel_rfl) (by kernel_rfl) (fun a1 => ?_)
   refine cW_ret ?_
   have hq : (some (decide (x3 > 0)) : Option ((Bool))) = some _ := hm
   replace hq := someE hq
   subst hq
   refine eX_ret (vs := [.bool (decide (x3 > 0))]) [.tmp 4] (by rfl) ⟨by (show lkE _ _ _ = _); kernel_rfl, trivial⟩ ?_
   exact ⟨rfl, hB⟩
  ·have hm := condF hb2 hm
   rewrite [hb2]
   refine wH_take [23, 24, 25, 26, 27, 28, 29, 30, 31, 32] [32, 31, 30, 29, 28, 27, 26, 25, 24, 23, 22, 21, 20, 19, 18, 17, 16, 15, 14, 13, 12, 11, 10, 9, 8, 7, 6, 5, 4, 3, 2, 1, 0] [(37, undef), (36, undef), (35, undef), (34, undef), (33, undef), (32, undef), (31, undef), (30, undef), (29, undef), (28, undef)] (by kernel_rfl) (qT (qT qZ)) (by kernel_rfl) ?_
   refine wH_done (by kernel_rfl) ?_
   refine eX_tail ?_
   refine wS_pure 5 [(4, .bool (false)), (41, .bool (false)), (40, undef), (39, undef), (38, undef)] (by kernel_rfl) ?_
   refine wS_end (by rfl) ?_
   refine eX_then ?_
   refine cW_prune [(4, .bool (false))] (by kernel_rfl) (by kernel_rfl) (fun a2 => ?_)
   refine cW_ret ?_
   have hq : (some false : Option ((Bool))) = some _ := hm
   replace hq := someE hq
   subst hq
   refine eX_ret (vs := [.bool (false)]) [.tmp 4] (by rfl) ⟨by (show lkE _ _ _ = _); kernel_rfl, trivial⟩ ?_
   exact ⟨rfl, hB⟩
 ·have hm := condF hb1 hm
  rewrite [hb1]
  refine wH_take [10, 11, 12, 13, 14, 15, 16, 17, 18, 19, 20, 21, 22, 23, 24, 25, 26, 27, 28, 29, 30, 31, 32] [32, 31, 30, 29, 28, 27, 26, 25, 24, 23, 22, 21, 20, 19, 18, 17, 16, 15, 14, 13, 12, 11, 10, 9, 8, 7, 6, 5, 4, 3, 2, 1, 0] [(37, undef), (36, undef), (35, undef), (34, undef), (33, undef), (32, undef), (31, undef), (30, undef), (29, undef), (28, undef), (27, .bool (false)), (26, .bool (false)), (25, undef), (24, undef), (23, undef), (22, undef), (21, undef), (20, undef), (19, undef), (18, undef), (17, undef), (16, undef), (15, undef)] (by kernel_rfl) (qT (qT qZ)) (by kernel_rfl) ?_
  refine wH_done (by kernel_rfl) ?_
  refine eX_tail ?_
  refine wS_pure 5 [(4, .bool (false)), (41, .bool (false)), (40, undef), (39, undef), (38, undef)] (by kernel_rfl) ?_
  refine wS_end (by rfl) ?_
  refine eX_then ?_
  refine cW_prune [(4, .bool (false))] (by kernel_rfl) (by kernel_rfl) (fun a3 => ?_)
  refine cW_ret ?_
  have hq : (some false : Option ((Bool))) = some _ := hm
  replace hq := someE hq
  subst hq
  refine eX_ret (vs := [.bool (false)]) [.tmp 4] (by rfl) ⟨by (show lkE _ _ _ = _); kernel_rfl, trivial⟩ ?_
  exact ⟨rfl, hB⟩

set_option maxRecDepth 100000 in
/-- impl.in -/
theorem c_impl_in {w0 : World} {p0 : Int} {p1 : Int} {p2 : Int} {r : (Bool)} (hm : m_impl_in p0 p1 p2 = some r)  :
  Calls Try.prog 50 #[.int .i64 (p0), .int .i64 (p1), .int .i64 (p2)] w0 fun e w' => e = .returned (.bool (r)) ∧ Chg [] w0 w' := by
 have hB : Chg [] w0 w0 := Chg.refl _ _
 have hZ := Nat.le_refl w0.heap.size
 unfold m_impl_in at hm
 refine enterE (N := 15) Try.func50 (by rfl) Try.ntmps50 (by simp) [(0, .int .i64 (p0)), (1, .int .i64 (p1)), (2, .int .i64 (p2))] (by rfl) (by kernel_rfl) (fun a => ?_)
 refine cW_seq ?_
 refine cW_region ?_
 refine wS_pure 1 [(6, .bool (false))] (by kernel_rfl) ?_
 refine wS_end (by rfl) ?_
 refine eX_then ?_
 refine cW_seq ?_
 refine cW_region ?_
 refine wS_pure 4 [(10, .bool (decide (p0 ≥ p1))), (9, .bool (decide (p0 ≥ p1))), (8, .int .i64 (p1)), (7, .int .i64 (p0))] (by kernel_rfl) ?_
 refine wS_bool (decide (p0 ≥ p1)) (fun hb1 => ?_) (fun hb1 => ?_)
 ·have hm := condT hb1 hm
  rewrite [hb1]
  refine wS_pure 5 [(6, .bool (decide (p0 ≤ p2))), (14, .bool (decide (p0 ≤ p2))), (13, .bool (decide (p0 ≤ p2))), (12, .int .i64 (p2)), (11, .int .i64 (p0))] (by kernel_rfl) ?_
  refine wS_end (by rfl) ?_
  refine eX_then ?_
  refine cW_ret ?_
  have hq : (some (decide (p0 ≤ p2)) : Option ((Bool))) = some _ := hm
  replace hq := someE hq
  subst hq
  refine eX_ret (vs := [.bool (decide (p0 ≤ p2))]) [.tmp 6] (by rfl) ⟨by (show lkE _ _ _ = _); kernel_rfl, trivial⟩ ?_
  exact ⟨rfl, hB⟩
 ·have hm := condF hb1 hm
  rewrite [hb1]
  refine wS_pure 5 [(6, .bool (false)), (14, .bool (false)), (13, undef), (12, undef), (11, undef)] (by kernel_rfl) ?_
  refine wS_end (by rfl) ?_
  refine eX_then ?_
  refine cW_ret ?_
  have hq : (some false : Option ((Bool))) = some _ := hm
  replace hq := someE hq
  subst hq
  refine eX_ret (vs := [.bool (false)]) [.tmp 6] (by rfl) ⟨by (show lkE _ _ _ = _); kernel_rfl, trivial⟩ ?_
  exact ⟨rfl, hB⟩

set_option maxRecDepth 100000 in
/-- impl.ValidMaze$1 -/
theorem c_impl_ValidMaze_1 {w0 : World} {p0 : Int} {r : (Bool)} (hm : m_impl_ValidMaze_1 p0 = some r)  :
  Calls Try.prog 53 #[.int .i64 (p0)] w0 fun e w' => e = .returned (.bool (r)) ∧ Chg [] w0 w' := by
 have hB : Chg [] w0 w0 := Chg.refl _ _
 have hZ := Nat.le_refl w0.heap.size
 unfold m_impl_ValidMaze_1 at hm
 refine enterE (N := 6) Try.func53 (by rfl) Try.ntmps53 (by simp) [(0, .int .i64 (p0))] (by rfl) (by kernel_rfl) (fun a => ?_)
 refine cW_seq ?_
 refine cW_region ?_
 refine wS_pure 1 [(2, .bool (false))] (by kernel_rfl) ?_
 refine wS_end (by rfl) ?_
 refine eX_then ?_
 refine cW_seq ?_
 refine cW_region ?_
 refine wS_pure 1 [(3, .int .i64 (p0))] (by kernel_rfl) ?_
 obtain ⟨y1, hy1, hm⟩ := bindE hm
 refine wS_calls (d := 4) (f := 50) (vs := [.int .i64 (p0), .int .i64 (0), .int .i64 (9)]) (by kernel_rfl) ent50 (c_impl_in hy1) ?_
 rintro _ w1 ⟨rfl, hc1⟩
 replace hB := hB.inS hc1 inNil
 replace hZ := Nat.le_trans hZ hc1.size
 refine ⟨.bool (y1), rfl, ?_⟩
 refine wS_pure 2 [(2, .bool (!y1)), (5, .bool (!y1))] (by kernel_rfl) ?_
 refine wS_end (by rfl) ?_
 refine eX_then ?_
 refine cW_ret ?_
 have hq : (some (!y1) : Option ((Bool))) = some _ := hm
 replace hq := someE hq
 subst hq
 refine eX_ret (vs := [.bool (!y1)]) [.tmp 2] (by rfl) ⟨by (show lkE _ _ _ = _); kernel_rfl, trivial⟩ ?_
 exact ⟨rfl, hB⟩

set_option maxRecDepth 100000 in
/-- slices.IndexFunc[[]int64,int64] -/
theorem c_slices_IndexFunc_int64_int64_impl_ValidMaze_1 {w0 : World} {l0 : List (Int)} {A0 : Option Addr} {cap0 : Nat} {fp0 : List Nat} {r : (Int)} (hm : m_slices_IndexFunc_int64_int64_impl_ValidMaze_1 l0 = some r) (F0 : Sl 1 encI w0 fp0 A0 l0) :
  Calls Try.prog 69 #[.slice A0 (l0).length cap0, .func (.func 53) #[] #[]] w0 fun e w' => e = .returned (.int .i64 (r)) ∧ Chg [] w0 w' := by
 have L0 := F0.low
 have hB : Chg [] w0 w0 := Chg.refl _ _
 have hZ := Nat.le_refl w0.heap.size
 unfold m_slices_IndexFunc_int64_int64_impl_ValidMaze_1 at hm
 refine enterE (N := 19) Try.func69 (by rfl) Try.ntmps69 (by simp) [(0, .slice A0 (l0).length cap0), (1, .func (.func 53) #[] #[])] (by rfl) (by kernel_rfl) (fun a => ?_)
 refine cW_seq ?_
 refine cW_region ?_
 refine wS_pure 1 [(4, .int .i64 (0))] (by kernel_rfl) ?_
 refine wS_end (by rfl) ?_
 refine eX_then ?_
 refine cW_seq ?_
 refine cW_seq ?_
 refine cW_region ?_
 refine wS_pure 3 [(8, .int .i64 (0)), (7, .int .i64 (((l0).length : Int))), (6, .slice A0 (l0).length cap0)] (by kernel_rfl) ?_
 refine wS_end (by rfl) ?_
 refine eX_then ?_
 obtain ⟨r1, hr1, hm⟩ := bindE hm
 have hm1 := hm
 refine cW_cut (fun a' w' => Sum.inl (()) = r1 ∧ Fr 19 [] a' ∧ Chg [] w0 w' ∧ w0.heap.size ≤ w'.heap.size) ?_ ?_
 ·refine cW_block ?_
  refine cW_loop _ (fun (s1 : Int) a' w' => ∃ x1 : Int, x1 = s1 ∧ Fr 19 [(0, .slice A0 (l0).length cap0), (1, .func (.func 53) #[] #[]), (7, .int .i64 (((l0).length : Int))), (8, .int .i64 (x1))] a' ∧ Sl 1 encI w' fp0 A0 l0 ∧ Chg [] w0 w' ∧ w0.heap.size ≤ w'.heap.size) hr1 (fun hst => ⟨0, rfl, Fr.of hst (by kernel_rfl), F0, hB, hZ⟩) ?_
  rintro _ c1 a' w1 ⟨x1, rfl, hF1, F1, hB, hZ⟩ hx1
  refine Fr.goOn hF1 (by kernel_rfl) ?_
  have hm := hx1
  unfold m_slices_IndexFunc_int64_int64_impl_ValidMaze_1_s1 at hm
  refine cW_seq ?_
  refine cW_region ?_
  refine wS_pure 1 [(9, .bool (decide (x1 < (((l0).length : Int)))))] (by kernel_rfl) ?_
  refine wS_end (by rfl) ?_
  refine eX_then ?_
  refine cW_seq ?_
  refine cW_cond (t := decide (x1 < (((l0).length : Int)))) (by kernel_rfl) (fun hb1 => ?_) (fun hb1 => ?_)
  ·have hm := condT hb1 hm
   refine cW_skip ?_
   refine eX_then ?_
   refine cW_seq ?_
   refine cW_block ?_
   refine cW_seq ?_
   refine cW_region ?_
   refine wS_pure 2 [(5, .int .i64 (x1)), (10, .int .i64 (x1))] (by kernel_rfl) ?_
   refine wS_end (by rfl) ?_
   refine eX_then ?_
   refine cW_seq ?_
   refine cW_region ?_
   refine wS_pure 3 [(13, .int .i64 (x1)), (12, .slice A0 (l0).length cap0), (11, .func (.func 53) #[] #[])] (by kernel_rfl) ?_
   obtain ⟨x2, hx2, hm⟩ := bindE hm
   refine wS_idx (d := 14) (T := 38) (A := A0) (n := (l0).length) (cap := cap0) (kd := .i64) (m := x1) (by kernel_rfl) sl38 (F1.is hx2) ?_
   refine wS_load1 (d := 15) (T := 2) (ad := (elA A0 1 (x1) 0)) (v := .int .i64 (x2)) (by kernel_rfl) vt2 (Sl.cell F1 hx2 0 (by rfl)) ?_
   obtain ⟨y1, hy1, hm⟩ := bindE hm
   refine wS_calls (d := 16) (f := 53) (vs := [.int .i64 (x2)]) (by kernel_rfl) ent53 (c_impl_ValidMaze_1 hy1) ?_
   rintro _ w2 ⟨rfl, hc1⟩
   replace F1 := F1.chg hc1 Dj.nil
   replace hB := hB.inS hc1 inNil
   replace hZ := Nat.le_trans hZ hc1.size
   refine ⟨.bool (y1), rfl, ?_⟩
   refine wS_end (by rfl) ?_
   refine eX_then ?_
   refine cW_cond (t := y1) (by kernel_rfl) (fun hb2 => ?_) (fun hb2 => ?_)
   ·have hm := condT hb2 hm
    refine cW_seq ?_
    refine cW_region ?_
    refine wS_pure 2 [(4, .int .i64 (x1)), (17, .int .i64 (x1))] (by kernel_rfl) ?_
    refine wS_end (by rfl) ?_
    refine eX_then ?_
    refine cW_ret ?_
    refine eX_block_ret ?_
    refine eX_then_ret ?_
    have hq : (some (Ctl.out (Sum.inr x1)) : Option (Ctl (Int) (Sum (Unit) ((Int))))) = some _ := hm
    replace hq := someE hq
    subst hq
    refine eX_outR hx1 (fun hr => ?_)
    subst hr
    refine eX_block_ret ?_
    refine eX_then_ret ?_
    refine eX_then_ret ?_
    have hq : (some x1 : Option ((Int))) = some _ := hm1
    replace hq := someE hq
    subst hq
    refine eX_ret (vs := [.int .i64 (x1)]) [.tmp 4] (by rfl) ⟨by (show lkE _ _ _ = _); kernel_rfl, trivial⟩ ?_
    exact ⟨rfl, hB⟩
   ·have hm := condF hb2 hm
    refine cW_skip ?_
    refine eX_block ?_
    refine eX_then ?_
    refine cW_region ?_
    refine wS_pure 2 [(8, .int .i64 (wr (x1 + 1))), (18, .int .i64 (wr (x1 + 1)))] (by kernel_rfl) ?_
    refine wS_end (by rfl) ?_
    have hq : (some (Ctl.next (wr (x1 + 1))) : Option (Ctl (Int) (Sum (Unit) ((Int))))) = some _ := hm
    replace hq := someE hq
    subst hq
    exact eX_next hx1 (fun hst => ⟨wr (x1 + 1), rfl, Fr.of hst (by kernel_rfl), F1, hB, hZ⟩)
  ·have hm := condF hb1 hm
   refine cW_exit ?_
   refine eX_then_exit ?_
   have hq : (some (Ctl.out (Sum.inl (()))) : Option (Ctl (Int) (Sum (Unit) ((Int))))) = some _ := hm
   replace hq := someE hq
   subst hq
   refine eX_outX hx1 (fun hr2 => ?_)
   replace hr2 := hr2.symm
   subst hr2
   refine eX_block_hit ?_
   exact eX_J (fun hst => ⟨rfl, Fr.of hst (by kernel_rfl), hB, hZ⟩)
 ·rintro a' w3 ⟨hJ, hF2, hB, hZ⟩
  subst hJ
  refine Fr.goX hF2 (by kernel_rfl) ?_
  refine eX_then ?_
  refine cW_seq ?_
  refine cW_region ?_
  refine wS_pure 1 [(4, .int .i64 ((-1)))] (by kernel_rfl) ?_
  refine wS_end (by rfl) ?_
  refine eX_then ?_
  refine cW_ret ?_
  have hq : (some ((-1)) : Option ((Int))) = some _ := hm
  replace hq := someE hq
  subst hq
  refine eX_ret (vs := [.int .i64 ((-1))]) [.tmp 4] (by rfl) ⟨by (show lkE _ _ _ = _); kernel_rfl, trivial⟩ ?_
  exact ⟨rfl, hB⟩

set_option maxRecDepth 100000 in
/-- slices.ContainsFunc[[]int64,int64] -/
theorem c_slices_ContainsFunc_int64_int64_impl_ValidMaze_1 {w0 : World} {l0 : List (Int)} {A0 : Option Addr} {cap0 : Nat} {fp0 : List Nat} {r : (Bool)} (hm : m_slices_ContainsFunc_int64_int64_impl_ValidMaze_1 l0 = some r) (F0 : Sl 1 encI w0 fp0 A0 l0) :
  Calls Try.prog 52 #[.slice A0 (l0).length cap0, .func (.func 53) #[] #[]] w0 fun e w' => e = .returned (.bool (r)) ∧ Chg [] w0 w' := by
 have L0 := F0.low
 have hB : Chg [] w0 w0 := Chg.refl _ _
 have hZ := Nat.le_refl w0.heap.size
 unfold m_slices_ContainsFunc_int64_int64_impl_ValidMaze_1 at hm
 refine enterE (N := 9) Try.func52 (by rfl) Try.ntmps52 (by simp) [(0, .slice A0 (l0).length cap0), (1, .func (.func 53) #[] #[])] (by rfl) (by kernel_rfl) (fun a => ?_)
 refine cW_seq ?_
 refine cW_region ?_
 refine wS_pure 1 [(4, .bool (false))] (by kernel_rfl) ?_
 refine wS_end (by rfl) ?_
 refine eX_then ?_
 refine cW_seq ?_
 refine cW_region ?_
 refine wS_pure 2 [(6, .func (.func 53) #[] #[]), (5, .slice A0 (l0).length cap0)] (by kernel_rfl) ?_
 obtain ⟨y1, hy1, hm⟩ := bindE hm
 refine wS_calls (d := 7) (f := 69) (vs := [.slice A0 (l0).length cap0, .func (.func 53) #[] #[]]) (by kernel_rfl) ent69 (c_slices_IndexFunc_int64_int64_impl_ValidMaze_1 hy1 F0) ?_
 rintro _ w1 ⟨rfl, hc1⟩
 replace F0 := F0.chg hc1 Dj.nil
 replace hB := hB.inS hc1 inNil
 replace hZ := Nat.le_trans hZ hc1.size
 refine ⟨.int .i64 (y1), rfl, ?_⟩
 refine wS_pure 2 [(4, .bool (decide (y1 ≥ 0))), (8, .bool (decide (y1 ≥ 0)))] (by kernel_rfl) ?_
 refine wS_end (by rfl) ?_
 refine eX_then ?_
 refine cW_ret ?_
 have hq : (some (decide (y1 ≥ 0)) : Option ((Bool))) = some _ := hm
 replace hq := someE hq
 subst hq
 refine eX_ret (vs := [.bool (decide (y1 ≥ 0))]) [.tmp 4] (by rfl) ⟨by (show lkE _ _ _ = _); kernel_rfl, trivial⟩ ?_
 exact ⟨rfl, hB⟩

set_option maxRecDepth 100000 in
/-- impl.ValidMaze -/
theorem c_impl_ValidMaze {w0 : World} {l0_0 : List (List (Int))} {A0_0 : Option Addr} {cap0_0 : Nat} {fp0_0 : List Nat} {r : (Bool)} (hm : m_impl_ValidMaze l0_0 = some r) (F0_0 : SlR 1 encI w0 fp0_0 A0_0 l0_0) :
  Calls Try.prog 32 #[.agg #[.slice A0_0 (l0_0).length cap0_0]] w0 fun e w' => e = .returned (.bool (r)) ∧ Chg [] w0 w' := by
 have L0_0 := F0_0.low
 have hB : Chg [] w0 w0 := Chg.refl _ _
 have hZ := Nat.le_refl w0.heap.size
 unfold m_impl_ValidMaze at hm
 refine enterE (N := 39) Try.func32 (by rfl) Try.ntmps32 (by simp) [(0, .agg #[.slice A0_0 (l0_0).length cap0_0])] (by rfl) (by kernel_rfl) (fun a => ?_)
 refine cW_seq ?_
 refine cW_region ?_
 refine wS_box (d := 1) (T := 26) (x := .agg #[.slice A0_0 (l0_0).length cap0_0]) (by kernel_rfl) ?_
 intro b1 w1 G1 F1 hc1
 replace F1 : Cl w1 b1 26 [.slice A0_0 (l0_0).length cap0_0] := F1
 replace F0_0 := F0_0.chg hc1 Dj.nil
 replace hB := hB.inS hc1 inNil
 replace G1 := Nat.le_trans hZ G1
 replace hZ := Nat.le_trans hZ hc1.size
 refine wS_pure 1 [(2, .bool (false))] (by kernel_rfl) ?_
 refine wS_end (by rfl) ?_
 refine eX_then ?_
 refine cW_seq ?_
 refine cW_seq ?_
 refine cW_region ?_
 refine wS_pure 1 [(5, .pointer (some ⟨b1, 0, none⟩))] (by kernel_rfl) ?_
 refine wS_load1 (d := 6) (T := 24) (ad := ⟨b1, 0, none⟩) (v := .slice A0_0 (l0_0).length cap0_0) (by kernel_rfl) vt24 ((F1).cell 0) ?_
 refine wS_pure 1 [(7, .int .i64 (((l0_0).length : Int)))] (by kernel_rfl) ?_
 obtain ⟨y1, hy1, hm⟩ := bindE hm
 refine wS_calls (d := 8) (f := 50) (vs := [.int .i64 (((l0_0).length : Int)), .int .i64 (1), .int .i64 (12)]) (by kernel_rfl) ent50 (c_impl_in hy1) ?_
 rintro _ w2 ⟨rfl, hc2⟩
 replace F0_0 := F0_0.chg hc2 Dj.nil
 replace F1 := F1.chg hc2 notNil
 replace hB := hB.inS hc2 inNil
 replace hZ := Nat.le_trans hZ hc2.size
 refine ⟨.bool (y1), rfl, ?_⟩
 refine wS_pure 2 [(10, .bool (!y1)), (9, .bool (!y1))] (by kernel_rfl) ?_
 refine wS_bool (!y1) (fun hb1 => ?_) (fun hb1 => ?_)
 ·have hm := condT hb1 hm
  rewrite [hb1]
  refine wS_pure 8 [(18, .bool (true)), (17, undef), (16, undef), (15, undef), (14, undef), (13, undef), (12, undef), (11, undef)] (by kernel_rfl) ?_
  refine wS_end (by rfl) ?_
  refine eX_then ?_
  refine cW_cond_t (by kernel_rfl) ?_
  refine cW_seq ?_
  refine cW_region ?_
  refine wS_pure 1 [(2, .bool (false))] (by kernel_rfl) ?_
  refine wS_end (by rfl) ?_
  refine eX_then ?_
  refine cW_ret ?_
  refine eX_then_ret ?_
  have hq : (some false : Option ((Bool))) = some _ := hm
  replace hq := someE hq
  subst hq
  refine eX_ret (vs := [.bool (false)]) [.tmp 2] (by rfl) ⟨by (show lkE _ _ _ = _); kernel_rfl, trivial⟩ ?_
  exact ⟨rfl, hB⟩
 ·have hm := condF hb1 hm
  rewrite [hb1]
  refine wS_pure 1 [(11, .pointer (some ⟨b1, 0, none⟩))] (by kernel_rfl) ?_
  refine wS_load1 (d := 12) (T := 24) (ad := ⟨b1, 0, none⟩) (v := .slice A0_0 (l0_0).length cap0_0) (by kernel_rfl) vt24 ((F1).cell 0) ?_
  obtain ⟨x1, hx1, hm⟩ := bindE hm
  refine wS_idx (d := 13) (T := 24) (A := A0_0) (n := (l0_0).length) (cap := cap0_0) (kd := .i64) (m := 0) (by kernel_rfl) sl24 (F0_0.is hx1) ?_
  obtain ⟨A1, cap1, hc3, F2, K1⟩ := SlR.row F0_0 hx1
  refine wS_load1 (d := 14) (T := 38) (ad := (elA A0_0 1 (0) 0)) (v := .slice A1 (x1).length cap1) (by kernel_rfl) vt38 hc3 ?_
  refine wS_pure 1 [(15, .int .i64 (((x1).length : Int)))] (by kernel_rfl) ?_
  obtain ⟨y2, hy2, hm⟩ := bindE hm
  refine wS_calls (d := 16) (f := 50) (vs := [.int .i64 (((x1).length : Int)), .int .i64 (1), .int .i64 (12)]) (by kernel_rfl) ent50 (c_impl_in hy2) ?_
  rintro _ w3 ⟨rfl, hc4⟩
  replace F0_0 := F0_0.chg hc4 Dj.nil
  replace F1 := F1.chg hc4 notNil
  replace F2 := F2.chg hc4 Dj.nil
  replace hB := hB.inS hc4 inNil
  replace hZ := Nat.le_trans hZ hc4.size
  refine ⟨.bool (y2), rfl, ?_⟩
  refine wS_pure 2 [(18, .bool (!y2)), (17, .bool (!y2))] (by kernel_rfl) ?_
  refine wS_end (by rfl) ?_
  refine eX_then ?_
  refine cW_cond (t := !y2) (by kernel_rfl) (fun hb2 => ?_) (fun hb2 => ?_)
  ·have hm := condT hb2 hm
   refine cW_seq ?_
   refine cW_region ?_
   refine wS_pure 1 [(2, .bool (false))] (by kernel_rfl) ?_
   refine wS_end (by rfl) ?_
   refine eX_then ?_
   refine cW_ret ?_
   refine eX_then_ret ?_
   have hq : (some false : Option ((Bool))) = some _ := hm
   replace hq := someE hq
   subst hq
   refine eX_ret (vs := [.bool (false)]) [.tmp 2] (by rfl) ⟨by (show lkE _ _ _ = _); kernel_rfl, trivial⟩ ?_
   exact ⟨rfl, hB⟩
  ·have hm := condF hb2 hm
   refine cW_skip ?_
   refine eX_then ?_
   refine cW_seq ?_
   refine cW_seq ?_
   refine cW_region ?_
   refine wS_pure 1 [(19, .pointer (some ⟨b1, 0, none⟩))] (by kernel_rfl) ?_
   refine wS_load1 (d := 20) (T := 24) (ad := ⟨b1, 0, none⟩) (v := .slice A0_0 (l0_0).length cap0_0) (by kernel_rfl) vt24 ((F1).cell 0) ?_
   refine wS_pure 2 [(22, .int .i64 (0)), (21, .int .i64 (((l0_0).length : Int)))] (by kernel_rfl) ?_
   refine wS_end (by rfl) ?_
   refine eX_then ?_
   obtain ⟨r1, hr1, hm⟩ := bindE hm
   have hm1 := hm
   refine cW_cut (fun a' w' => Sum.inl (()) = r1 ∧ Fr 39 [] a' ∧ Chg [] w0 w' ∧ w0.heap.size ≤ w'.heap.size) ?_ ?_
   ·refine cW_block ?_
    refine cW_loop _ (fun (s1 : Int) a' w' => ∃ x2 : Int, x2 = s1 ∧ Fr 39 [(1, .pointer (some ⟨b1, 0, none⟩)), (20, .slice A0_0 (l0_0).length cap0_0), (21, .int .i64 (((l0_0).length : Int))), (22, .int .i64 (x2))] a' ∧ SlR 1 encI w' fp0_0 A0_0 l0_0 ∧ Cl w' b1 26 [.slice A0_0 (l0_0).length cap0_0] ∧ Chg [] w0 w' ∧ w0.heap.size ≤ w'.heap.size) hr1 (fun hst => ⟨0, rfl, Fr.of hst (by kernel_rfl), F0_0, F1, hB, hZ⟩) ?_
    rintro _ c1 a' w4 ⟨x2, rfl, hF1, F3, F4, hB, hZ⟩ hx2
    refine Fr.goOn hF1 (by kernel_rfl) ?_
    have hm := hx2
    unfold m_impl_ValidMaze_s1 at hm
    refine cW_seq ?_
    refine cW_region ?_
    refine wS_pure 1 [(23, .bool (decide (x2 < (((l0_0).length : Int)))))] (by kernel_rfl) ?_
    refine wS_end (by rfl) ?_
    refine eX_then ?_
    refine cW_seq ?_
    refine cW_cond (t := decide (x2 < (((l0_0).length : Int)))) (by kernel_rfl) (fun hb3 => ?_) (fun hb3 => ?_)
    ·have hm := condT hb3 hm
     refine cW_skip ?_
     refine eX_then ?_
     refine cW_seq ?_
     refine cW_block ?_
     refine cW_seq ?_
     refine cW_region ?_
     obtain ⟨x3, hx3, hm⟩ := bindE hm
     refine wS_idx (d := 24) (T := 24) (A := A0_0) (n := (l0_0).length) (cap := cap0_0) (kd := .i64) (m := x2) (by kernel_rfl) sl24 (F3.is hx3) ?_
     obtain ⟨A2, cap2, hc5, F5, K2⟩ := SlR.row F3 hx3
     refine wS_load1 (d := 25) (T := 38) (ad := (elA A0_0 1 (x2) 0)) (v := .slice A2 (x3).length cap2) (by kernel_rfl) vt38 hc5 ?_
     refine wS_pure 1 [(4, .slice A2 (x3).length cap2)] (by kernel_rfl) ?_
     refine wS_end (by rfl) ?_
     refine eX_then ?_
     refine cW_seq ?_
     refine cW_region ?_
     refine wS_pure 3 [(28, .pointer (some ⟨b1, 0, none⟩)), (27, .int .i64 (((x3).length : Int))), (26, .slice A2 (x3).length cap2)] (by kernel_rfl) ?_
     refine wS_load1 (d := 29) (T := 24) (ad := ⟨b1, 0, none⟩) (v := .slice A0_0 (l0_0).length cap0_0) (by kernel_rfl) vt24 ((F4).cell 0) ?_
     obtain ⟨x4, hx4, hm⟩ := bindE hm
     refine wS_idx (d := 30) (T := 24) (A := A0_0) (n := (l0_0).length) (cap := cap0_0) (kd := .i64) (m := 0) (by kernel_rfl) sl24 (F3.is hx4) ?_
     obtain ⟨A3, cap3, hc6, F6, K3⟩ := SlR.row F3 hx4
     refine wS_load1 (d := 31) (T := 38) (ad := (elA A0_0 1 (0) 0)) (v := .slice A3 (x4).length cap3) (by kernel_rfl) vt38 hc6 ?_
     refine wS_pure 3 [(34, .bool ((((x3).length : Int)) != (((x4).length : Int)))), (33, .bool ((((x3).length : Int)) != (((x4).length : Int)))), (32, .int .i64 (((x4).length : Int)))] (by kernel_rfl) ?_
     refine wS_bool ((((x3).length : Int)) != (((x4).length : Int))) (fun hb4 => ?_) (fun hb4 => ?_)
     ·have hm := condT hb4 hm
      rewrite [hb4]
      refine wS_pure 3 [(37, .bool (true)), (36, undef), (35, undef)] (by kernel_rfl) ?_
      refine wS_end (by rfl) ?_
      refine eX_then ?_
      refine cW_cond_t (by kernel_rfl) ?_
      refine cW_seq ?_
      refine cW_region ?_
      refine wS_pure 1 [(2, .bool (false))] (by kernel_rfl) ?_
      refine wS_end (by rfl) ?_
      refine eX_then ?_
      refine cW_ret ?_
      refine eX_block_ret ?_
      refine eX_then_ret ?_
      have hq : (some (Ctl.out (Sum.inr false)) : Option (Ctl (Int) (Sum (Unit) ((Bool))))) = some _ := hm
      replace hq := someE hq
      subst hq
      refine eX_outR hx2 (fun hr => ?_)
      subst hr
      refine eX_block_ret ?_
      refine eX_then_ret ?_
      refine eX_then_ret ?_
      have hq : (some false : Option ((Bool))) = some _ := hm1
      replace hq := someE hq
      subst hq
      refine eX_ret (vs := [.bool (false)]) [.tmp 2] (by rfl) ⟨by (show lkE _ _ _ = _); kernel_rfl, trivial⟩ ?_
      exact ⟨rfl, hB⟩
     ·have hm := condF hb4 hm
      rewrite [hb4]
      refine wS_pure 1 [(35, .slice A2 (x3).length cap2)] (by kernel_rfl) ?_
      obtain ⟨y3, hy3, hm⟩ := bindE hm
      refine wS_calls (d := 36) (f := 52) (vs := [.slice A2 (x3).length cap2, .func (.func 53) #[] #[]]) (by kernel_rfl) ent52 (c_slices_ContainsFunc_int64_int64_impl_ValidMaze_1 hy3 F5) ?_
      rintro _ w5 ⟨rfl, hc7⟩
      replace F3 := F3.chg hc7 Dj.nil
      replace F4 := F4.chg hc7 notNil
      replace F5 := F5.chg hc7 Dj.nil
      replace F6 := F6.chg hc7 Dj.nil
      replace hB := hB.inS hc7 inNil
      replace hZ := Nat.le_trans hZ hc7.size
      refine ⟨.bool (y3), rfl, ?_⟩
      refine wS_pure 1 [(37, .bool (y3))] (by kernel_rfl) ?_
      refine wS_end (by rfl) ?_
      refine eX_then ?_
      refine cW_cond (t := y3) (by kernel_rfl) (fun hb5 => ?_) (fun hb5 => ?_)
      ·have hm := condT hb5 hm
       refine cW_seq ?_
       refine cW_region ?_
       refine wS_pure 1 [(2, .bool (false))] (by kernel_rfl) ?_
       refine wS_end (by rfl) ?_
       refine eX_then ?_
       refine cW_ret ?_
       refine eX_block_ret ?_
       refine eX_then_ret ?_
       have hq : (some (Ctl.out (Sum.inr false)) : Option (Ctl (Int) (Sum (Unit) ((Bool))))) = some _ := hm
       replace hq := someE hq
       subst hq
       refine eX_outR hx2 (fun hr => ?_)
       subst hr
       refine eX_block_ret ?_
       refine eX_then_ret ?_
       refine eX_then_ret ?_
       have hq : (some false : Option ((Bool))) = some _ := hm1
       replace hq := someE hq
       subst hq
       refine eX_ret (vs := [.bool (false)]) [.tmp 2] (by rfl) ⟨by (show lkE _ _ _ = _); kernel_rfl, trivial⟩ ?_
       exact ⟨rfl, hB⟩
      ·have hm := condF hb5 hm
       refine cW_skip ?_
       refine eX_block ?_
       refine eX_then ?_
       refine cW_region ?_
       refine wS_pure 2 [(22, .int .i64 (wr (x2 + 1))), (38, .int .i64 (wr (x2 + 1)))] (by kernel_rfl) ?_
       refine wS_end (by rfl) ?_
       have hq : (some (Ctl.next (wr (x2 + 1))) : Option (Ctl (Int) (Sum (Unit) ((Bool))))) = some _ := hm
       replace hq := someE hq
       subst hq
       exact eX_next hx2 (fun hst => ⟨wr (x2 + 1), rfl, Fr.of hst (by kernel_rfl), F3, F4, hB, hZ⟩)
    ·have hm := condF hb3 hm
     refine cW_exit ?_
     refine eX_then_exit ?_
     have hq : (some (Ctl.out (Sum.inl (()))) : Option (Ctl (Int) (Sum (Unit) ((Bool))))) = some _ := hm
     replace hq := someE hq
     subst hq
     refine eX_outX hx2 (fun hr2 => ?_)
     replace hr2 := hr2.symm
     subst hr2
     refine eX_block_hit ?_
     exact eX_J (fun hst => ⟨rfl, Fr.of hst (by kernel_rfl), hB, hZ⟩)
   ·rintro a' w6 ⟨hJ, hF2, hB, hZ⟩
    subst hJ
    refine Fr.goX hF2 (by kernel_rfl) ?_
    refine eX_then ?_
    refine cW_seq ?_
    refine cW_region ?_
    refine wS_pure 1 [(2, .bool (true))] (by kernel_rfl) ?_
    refine wS_end (by rfl) ?_
    refine eX_then ?_
    refine cW_ret ?_
    have hq : (some true : Option ((Bool))) = some _ := hm
    replace hq := someE hq
    subst hq
    refine eX_ret (vs := [.bool (true)]) [.tmp 2] (by rfl) ⟨by (show lkE _ _ _ = _); kernel_rfl, trivial⟩ ?_
    exact ⟨rfl, hB⟩

set_option maxRecDepth 100000 in
/-- impl.Maze).has -/
theorem c_impl_Maze_has_bimplMaze {w0 : World} {l0_0 : List (List (Int))} {A0_0 : Option Addr} {cap0_0 : Nat} {fp0_0 : List Nat} {b0 : Nat} {p1_0 : Int} {p1_1 : Int} {r : (Bool)} (hm : m_impl_Maze_has_bimplMaze l0_0 p1_0 p1_1 = some r) (F0_0 : SlR 1 encI w0 fp0_0 A0_0 l0_0) (F0 : Cl w0 b0 26 [.slice A0_0 (l0_0).length cap0_0]) :
  Calls Try.prog 54 #[.pointer (some ⟨b0, 0, none⟩), .agg #[.int .i64 (p1_0), .int .i64 (p1_1)]] w0 fun e w' => e = .returned (.bool (r)) ∧ Chg [] w0 w' := by
 have L0_0 := F0_0.low
 have L0 := lt1 F0.lt
 have hB : Chg [] w0 w0 := Chg.refl _ _
 have hZ := Nat.le_refl w0.heap.size
 unfold m_impl_Maze_has_bimplMaze at hm
 refine enterE (N := 27) Try.func54 (by rfl) Try.ntmps54 (by simp) [(0, .pointer (some ⟨b0, 0, none⟩)), (1, .agg #[.int .i64 (p1_0), .int .i64 (p1_1)])] (by rfl) (by kernel_rfl) (fun a => ?_)
 refine cW_seq ?_
 refine cW_region ?_
 refine wS_box (d := 3) (T := 29) (x := .agg #[.int .i64 (p1_0), .int .i64 (p1_1)]) (by kernel_rfl) ?_
 intro b1 w1 G1 F1 hc1
 replace F1 : Cl w1 b1 29 [.int .i64 (p1_0), .int .i64 (p1_1)] := F1
 replace F0_0 := F0_0.chg hc1 Dj.nil
 replace F0 := F0.chg hc1 notNil
 replace hB := hB.inS hc1 inNil
 replace G1 := Nat.le_trans hZ G1
 replace hZ := Nat.le_trans hZ hc1.size
 refine wS_pure 1 [(4, .bool (false))] (by kernel_rfl) ?_
 refine wS_end (by rfl) ?_
 refine eX_then ?_
 refine cW_seq ?_
 refine cW_drawnTail [] 20 (by kernel_rfl) (by kernel_rfl) (fun w2 hc2 => ?_)
 replace F0_0 := F0_0.chg hc2 Dj.nil
 replace F0 := F0.chg hc2 notNil
 replace F1 := F1.chg hc2 notNil
 replace hB := hB.inS hc2 inNil
 replace hZ := Nat.le_trans hZ hc2.size
 have hS := Chg.refl [] w2
 have Z1 := F0_0
 have Z2 := F0
 have Z3 := F1
 refine wH_take [0] [0] [(5, .pointer (some ⟨b1, 1, none⟩))] (by kernel_rfl) (qT (qT qZ)) (by kernel_rfl) ?_
 refine wH_load1 (i := 1) (d := 6) (T := 2) (ad := ⟨b1, 1, none⟩) (v := .int .i64 (p1_1)) (by kernel_rfl) (qT (qT qZ)) (by kernel_rfl) (by kernel_rfl) vt2 (fun W hW => (Z3.chg hW notNil).cell 1) ?_
 refine wH_take [2, 3, 4] [4, 3, 2, 1, 0] [(9, .pointer (some ⟨b0, 0, none⟩)), (8, .pointer (some ⟨b0, 0, none⟩)), (7, .pointer (some ⟨b0, 0, none⟩))] (by kernel_rfl) (qT (qT qZ)) (by kernel_rfl) ?_
 refine wH_load1 (i := 5) (d := 10) (T := 24) (ad := ⟨b0, 0, none⟩) (v := .slice A0_0 (l0_0).length cap0_0) (by kernel_rfl) (qT (qT qZ)) (by kernel_rfl) (by kernel_rfl) vt24 (fun W hW => (Z2.chg hW notNil).cell 0) ?_
 refine wH_take [6, 7] [7, 6, 5, 4, 3, 2, 1, 0] [(12, .int .i64 (wr ((((l0_0).length : Int)) - 1))), (11, .int .i64 (((l0_0).length : Int)))] (by kernel_rfl) (qT (qT qZ)) (by kernel_rfl) ?_
 refine wH_all [8] (by rfl) (by kernel_rfl) (by simp) ⟨⟨by kernel_rfl, ?_⟩, trivial⟩
 obtain ⟨y1, hy1, hm⟩ := bindE hm
 refine wS_calls (d := 13) (f := 50) (vs := [.int .i64 (p1_1), .int .i64 (0), .int .i64 (wr ((((l0_0).length : Int)) - 1))]) (by kernel_rfl) ent50 (c_impl_in hy1) ?_
 rintro _ w3 ⟨rfl, hc3⟩
 replace F0_0 := F0_0.chg hc3 Dj.nil
 replace F0 := F0.chg hc3 notNil
 replace F1 := F1.chg hc3 notNil
 replace hB := hB.inS hc3 inNil
 have hSz := hS
 replace hS := hS.inS hc3 inNil
 replace hZ := Nat.le_trans hZ hc3.size
 refine ⟨.bool (y1), rfl, ?_⟩
 refine wS_end (by kernel_rfl) ?_
 refine eX_KH hS ?_
 refine wH_take [9] [9, 8, 7, 6, 5, 4, 3, 2, 1, 0] [(14, .bool (y1))] (by kernel_rfl) (qT (qT qZ)) (by kernel_rfl) ?_
 refine wH_bool y1 (fun hb1 => ?_) (fun hb1 => ?_)
 ·have hm := condT hb1 hm
  rewrite [hb1]
  refine wH_take [10] [10, 9, 8, 7, 6, 5, 4, 3, 2, 1, 0] [(15, .pointer (some ⟨b1, 0, none⟩))] (by kernel_rfl) (qT (qT qZ)) (by kernel_rfl) ?_
  refine wH_load1 (i := 11) (d := 16) (T := 2) (ad := ⟨b1, 0, none⟩) (v := .int .i64 (p1_0)) (by kernel_rfl) (qT (qT qZ)) (by kernel_rfl) (by kernel_rfl) vt2 (fun W hW => (Z3.chg hW notNil).cell 0) ?_
  refine wH_take [12, 13, 14] [14, 13, 12, 11, 10, 9, 8, 7, 6, 5, 4, 3, 2, 1, 0] [(19, .pointer (some ⟨b0, 0, none⟩)), (18, .pointer (some ⟨b0, 0, none⟩)), (17, .pointer (some ⟨b0, 0, none⟩))] (by kernel_rfl) (qT (qT qZ)) (by kernel_rfl) ?_
  refine wH_load1 (i := 15) (d := 20) (T := 24) (ad := ⟨b0, 0, none⟩) (v := .slice A0_0 (l0_0).length cap0_0) (by kernel_rfl) (qT (qT qZ)) (by kernel_rfl) (by kernel_rfl) vt24 (fun W hW => (Z2.chg hW notNil).cell 0) ?_
  obtain ⟨x1, hx1, hm⟩ := bindE hm
  refine wH_idx (i := 16) (d := 21) (T := 24) (A := A0_0) (n := (l0_0).length) (cap := cap0_0) (kd := .i64) (m := 0) (by kernel_rfl) (qT (qT qZ)) (by kernel_rfl) (by kernel_rfl) sl24 (F0_0.is hx1) ?_
  obtain ⟨A1, cap1, hc4, F2, K1⟩ := SlR.row Z1 hx1
  have F3 := F2.chg hS Dj.nil
  refine wH_load1 (i := 17) (d := 22) (T := 38) (ad := (elA A0_0 1 (0) 0)) (v := .slice A1 (x1).length cap1) (by kernel_rfl) (qT (qT qZ)) (by kernel_rfl) (by kernel_rfl) vt38 (fun W hW => hW.keep hc4) ?_
  refine wH_take [18, 19] [19, 18, 17, 16, 15, 14, 13, 12, 11, 10, 9, 8, 7, 6, 5, 4, 3, 2, 1, 0] [(24, .int .i64 (wr ((((x1).length : Int)) - 1))), (23, .int .i64 (((x1).length : Int)))] (by kernel_rfl) (qT (qT qZ)) (by kernel_rfl) ?_
  refine wH_done (by kernel_rfl) ?_
  refine eX_tail ?_
  obtain ⟨y2, hy2, hm⟩ := bindE hm
  refine wS_calls (d := 25) (f := 50) (vs := [.int .i64 (p1_0), .int .i64 (0), .int .i64 (wr ((((x1).length : Int)) - 1))]) (by kernel_rfl) ent50 (c_impl_in hy2) ?_
  rintro _ w4 ⟨rfl, hc5⟩
  replace F0_0 := F0_0.chg hc5 Dj.nil
  replace F0 := F0.chg hc5 notNil
  replace F1 := F1.chg hc5 notNil
  replace F3 := F3.chg hc5 Dj.nil
  replace hB := hB.inS hc5 inNil
  replace hZ := Nat.le_trans hZ hc5.size
  refine ⟨.bool (y2), rfl, ?_⟩
  refine wS_pure 2 [(4, .bool (y2)), (26, .bool (y2))] (by kernel_rfl) ?_
  refine wS_end (by rfl) ?_
  refine eX_then ?_
  refine cW_prune [(4, .bool (y2))] (by kernel_rfl) (by kernel_rfl) (fun a1 => ?_)
  refine cW_ret ?_
  have hq : (some y2 : Option ((Bool))) = some _ := hm
  replace hq := someE hq
  subst hq
  refine eX_ret (vs := [.bool (y2)]) [.tmp 4] (by rfl) ⟨by (show lkE _ _ _ = _); kernel_rfl, trivial⟩ ?_
  exact ⟨rfl, hB⟩
 ·have hm := condF hb1 hm
  rewrite [hb1]
  refine wH_take [10, 11, 12, 13, 14, 15, 16, 17, 18, 19] [19, 18, 17, 16, 15, 14, 13, 12, 11, 10, 9, 8, 7, 6, 5, 4, 3, 2, 1, 0] [(24, undef), (23, undef), (22, undef), (21, undef), (20, undef), (19, undef), (18, undef), (17, undef), (16, undef), (15, undef)] (by kernel_rfl) (qT (qT qZ)) (by kernel_rfl) ?_
  refine wH_done (by kernel_rfl) ?_
  refine eX_tail ?_
  refine wS_pure 3 [(4, .bool (false)), (26, .bool (false)), (25, undef)] (by kernel_rfl) ?_
  refine wS_end (by rfl) ?_
  refine eX_then ?_
  refine cW_prune [(4, .bool (false))] (by kernel_rfl) (by kernel_rfl) (fun a2 => ?_)
  refine cW_ret ?_
  have hq : (some false : Option ((Bool))) = some _ := hm
  replace hq := someE hq
  subst hq
  refine eX_ret (vs := [.bool (false)]) [.tmp 4] (by rfl) ⟨by (show lkE _ _ _ = _); kernel_rfl, trivial⟩ ?_
  exact ⟨rfl, hB⟩

set_option maxRecDepth 100000 in
/-- impl.Maze).price -/
theorem c_impl_Maze_price_bimplMaze {w0 : World} {l0_0 : List (List (Int))} {A0_0 : Option Addr} {cap0_0 : Nat} {fp0_0 : List Nat} {b0 : Nat} {p1_0 : Int} {p1_1 : Int} {r : (Int)} (hm : m_impl_Maze_price_bimplMaze l0_0 p1_0 p1_1 = some r) (F0_0 : SlR 1 encI w0 fp0_0 A0_0 l0_0) (F0 : Cl w0 b0 26 [.slice A0_0 (l0_0).length cap0_0]) :
  Calls Try.prog 55 #[.pointer (some ⟨b0, 0, none⟩), .agg #[.int .i64 (p1_0), .int .i64 (p1_1)]] w0 fun e w' => e = .returned (.int .i64 (r)) ∧ Chg [] w0 w' := by
 have L0_0 := F0_0.low
 have L0 := lt1 F0.lt
 have hB : Chg [] w0 w0 := Chg.refl _ _
 have hZ := Nat.le_refl w0.heap.size
 unfold m_impl_Maze_price_bimplMaze at hm
 refine enterE (N := 17) Try.func55 (by rfl) Try.ntmps55 (by simp) [(0, .pointer (some ⟨b0, 0, none⟩)), (1, .agg #[.int .i64 (p1_0), .int .i64 (p1_1)])] (by rfl) (by kernel_rfl) (fun a => ?_)
 refine cW_seq ?_
 refine cW_region ?_
 refine wS_box (d := 3) (T := 29) (x := .agg #[.int .i64 (p1_0), .int .i64 (p1_1)]) (by kernel_rfl) ?_
 intro b1 w1 G1 F1 hc1
 replace F1 : Cl w1 b1 29 [.int .i64 (p1_0), .int .i64 (p1_1)] := F1
 replace F0_0 := F0_0.chg hc1 Dj.nil
 replace F0 := F0.chg hc1 notNil
 replace hB := hB.inS hc1 inNil
 replace G1 := Nat.le_trans hZ G1
 replace hZ := Nat.le_trans hZ hc1.size
 refine wS_pure 1 [(4, .int .i64 (0))] (by kernel_rfl) ?_
 refine wS_end (by rfl) ?_
 refine eX_then ?_
 refine cW_seq ?_
 refine cW_drawnTail [] 10 (by kernel_rfl) (by kernel_rfl) (fun w2 hc2 => ?_)
 replace F0_0 := F0_0.chg hc2 Dj.nil
 replace F0 := F0.chg hc2 notNil
 replace F1 := F1.chg hc2 notNil
 replace hB := hB.inS hc2 inNil
 replace hZ := Nat.le_trans hZ hc2.size
 have hS := Chg.refl [] w2
 have Z1 := F0_0
 have Z2 := F0
 have Z3 := F1
 refine wH_take [0, 1, 2] [2, 1, 0] [(7, .pointer (some ⟨b0, 0, none⟩)), (6, .pointer (some ⟨b0, 0, none⟩)), (5, .pointer (some ⟨b0, 0, none⟩))] (by kernel_rfl) (qT (qT qZ)) (by kernel_rfl) ?_
 refine wH_load1 (i := 3) (d := 8) (T := 24) (ad := ⟨b0, 0, none⟩) (v := .slice A0_0 (l0_0).length cap0_0) (by kernel_rfl) (qT (qT qZ)) (by kernel_rfl) (by kernel_rfl) vt24 (fun W hW => (Z2.chg hW notNil).cell 0) ?_
 refine wH_take [4] [4, 3, 2, 1, 0] [(9, .pointer (some ⟨b1, 1, none⟩))] (by kernel_rfl) (qT (qT qZ)) (by kernel_rfl) ?_
 refine wH_load1 (i := 5) (d := 10) (T := 2) (ad := ⟨b1, 1, none⟩) (v := .int .i64 (p1_1)) (by kernel_rfl) (qT (qT qZ)) (by kernel_rfl) (by kernel_rfl) vt2 (fun W hW => (Z3.chg hW notNil).cell 1) ?_
 obtain ⟨x1, hx1, hm⟩ := bindE hm
 refine wH_idx (i := 6) (d := 11) (T := 24) (A := A0_0) (n := (l0_0).length) (cap := cap0_0) (kd := .i64) (m := p1_1) (by kernel_rfl) (qT (qT qZ)) (by kernel_rfl) (by kernel_rfl) sl24 (F0_0.is hx1) ?_
 obtain ⟨A1, cap1, hc3, F2, K1⟩ := SlR.row Z1 hx1
 refine wH_load1 (i := 7) (d := 12) (T := 38) (ad := (elA A0_0 1 (p1_1) 0)) (v := .slice A1 (x1).length cap1) (by kernel_rfl) (qT (qT qZ)) (by kernel_rfl) (by kernel_rfl) vt38 (fun W hW => hW.keep hc3) ?_
 refine wH_take [8] [8, 7, 6, 5, 4, 3, 2, 1, 0] [(13, .pointer (some ⟨b1, 0, none⟩))] (by kernel_rfl) (qT (qT qZ)) (by kernel_rfl) ?_
 refine wH_load1 (i := 9) (d := 14) (T := 2) (ad := ⟨b1, 0, none⟩) (v := .int .i64 (p1_0)) (by kernel_rfl) (qT (qT qZ)) (by kernel_rfl) (by kernel_rfl) vt2 (fun W hW => (Z3.chg hW notNil).cell 0) ?_
 refine wH_done (by kernel_rfl) ?_
 refine eX_tail ?_
 obtain ⟨x2, hx2, hm⟩ := bindE hm
 refine wS_idx (d := 15) (T := 38) (A := A1) (n := (x1).length) (cap := cap1) (kd := .i64) (m := p1_0) (by kernel_rfl) sl38 (F2.is hx2) ?_
 refine wS_load1 (d := 16) (T := 2) (ad := (elA A1 1 (p1_0) 0)) (v := .int .i64 (x2)) (by kernel_rfl) vt2 (Sl.cell F2 hx2 0 (by rfl)) ?_
 refine wS_pure 1 [(4, .int .i64 (x2))] (by kernel_rfl) ?_
 refine wS_end (by rfl) ?_
 refine eX_then ?_
 refine cW_ret ?_
 have hq : (some x2 : Option ((Int))) = some _ := hm
 replace hq := someE hq
 subst hq
 refine eX_ret (vs := [.int .i64 (x2)]) [.tmp 4] (by rfl) ⟨by (show lkE _ _ _ = _); kernel_rfl, trivial⟩ ?_
 exact ⟨rfl, hB⟩

set_option maxRecDepth 100000 in
/-- impl.Maze).open -/
theorem c_impl_Maze_open_bimplMaze {w0 : World} {l0_0 : List (List (Int))} {A0_0 : Option Addr} {cap0_0 : Nat} {fp0_0 : List Nat} {b0 : Nat} {p1_0 : Int} {p1_1 : Int} {r : (Bool)} (hm : m_impl_Maze_open_bimplMaze l0_0 p1_0 p1_1 = some r) (F0_0 : SlR 1 encI w0 fp0_0 A0_0 l0_0) (F0 : Cl w0 b0 26 [.slice A0_0 (l0_0).length cap0_0]) :
  Calls Try.prog 33 #[.pointer (some ⟨b0, 0, none⟩), .agg #[.int .i64 (p1_0), .int .i64 (p1_1)]] w0 fun e w' => e = .returned (.bool (r)) ∧ Chg [] w0 w' := by
 have L0_0 := F0_0.low
 have L0 := lt1 F0.lt
 have hB : Chg [] w0 w0 := Chg.refl _ _
 have hZ := Nat.le_refl w0.heap.size
 unfold m_impl_Maze_open_bimplMaze at hm
 refine enterE (N := 14) Try.func33 (by rfl) Try.ntmps33 (by simp) [(0, .pointer (some ⟨b0, 0, none⟩)), (1, .agg #[.int .i64 (p1_0), .int .i64 (p1_1)])] (by rfl) (by kernel_rfl) (fun a => ?_)
 refine cW_seq ?_
 refine cW_region ?_
 refine wS_box (d := 3) (T := 29) (x := .agg #[.int .i64 (p1_0), .int .i64 (p1_1)]) (by kernel_rfl) ?_
 intro b1 w1 G1 F1 hc1
 replace F1 : Cl w1 b1 29 [.int .i64 (p1_0), .int .i64 (p1_1)] := F1
 replace F0_0 := F0_0.chg hc1 Dj.nil
 replace F0 := F0.chg hc1 notNil
 replace hB := hB.inS hc1 inNil
 replace G1 := Nat.le_trans hZ G1
 replace hZ := Nat.le_trans hZ hc1.size
 refine wS_pure 1 [(4, .bool (false))] (by kernel_rfl) ?_
 refine wS_end (by rfl) ?_
 refine eX_then ?_
 refine cW_seq ?_
 refine cW_region ?_
 refine wS_pure 1 [(5, .pointer (some ⟨b0, 0, none⟩))] (by kernel_rfl) ?_
 refine wS_loadA (d := 6) (T := 29) (ad := ⟨b1, 0, none⟩) (vs := [.int .i64 (p1_0), .int .i64 (p1_1)]) (by kernel_rfl) vt29 (fun i u hu => box_cells F1 0 hu (by rfl)) ?_
 obtain ⟨y1, hy1, hm⟩ := bindE hm
 refine wS_calls (d := 7) (f := 54) (vs := [.pointer (some ⟨b0, 0, none⟩), .agg #[.int .i64 (p1_0), .int .i64 (p1_1)]]) (by kernel_rfl) ent54 (c_impl_Maze_has_bimplMaze hy1 F0_0 F0) ?_
 rintro _ w2 ⟨rfl, hc2⟩
 replace F0_0 := F0_0.chg hc2 Dj.nil
 replace F0 := F0.chg hc2 notNil
 replace F1 := F1.chg hc2 notNil
 replace hB := hB.inS hc2 inNil
 replace hZ := Nat.le_trans hZ hc2.size
 refine ⟨.bool (y1), rfl, ?_⟩
 refine wS_pure 1 [(8, .bool (y1))] (by kernel_rfl) ?_
 refine wS_bool y1 (fun hb1 => ?_) (fun hb1 => ?_)
 ·have hm := condT hb1 hm
  rewrite [hb1]
  refine wS_pure 1 [(9, .pointer (some ⟨b0, 0, none⟩))] (by kernel_rfl) ?_
  refine wS_loadA (d := 10) (T := 29) (ad := ⟨b1, 0, none⟩) (vs := [.int .i64 (p1_0), .int .i64 (p1_1)]) (by kernel_rfl) vt29 (fun i u hu => box_cells F1 0 hu (by rfl)) ?_
  obtain ⟨y2, hy2, hm⟩ := bindE hm
  refine wS_calls (d := 11) (f := 55) (vs := [.pointer (some ⟨b0, 0, none⟩), .agg #[.int .i64 (p1_0), .int .i64 (p1_1)]]) (by kernel_rfl) ent55 (c_impl_Maze_price_bimplMaze hy2 F0_0 F0) ?_
  rintro _ w3 ⟨rfl, hc3⟩
  replace F0_0 := F0_0.chg hc3 Dj.nil
  replace F0 := F0.chg hc3 notNil
  replace F1 := F1.chg hc3 notNil
  replace hB := hB.inS hc3 inNil
  replace hZ := Nat.le_trans hZ hc3.size
  refine ⟨.int .i64 (y2), rfl, ?_⟩
  refine wS_pure 3 [(4, .bool (y2 != 0)), (13, .bool (y2 != 0)), (12, .bool (y2 != 0))] (by kernel_rfl) ?_
  refine wS_end (by rfl) ?_
  refine eX_then ?_
  refine cW_ret ?_
  have hq : (some (y2 != 0) : Option ((Bool))) = some _ := hm
  replace hq := someE hq
  subst hq
  refine eX_ret (vs := [.bool (y2 != 0)]) [.tmp 4] (by rfl) ⟨by (show lkE _ _ _ = _); kernel_rfl, trivial⟩ ?_
  exact ⟨rfl, hB⟩
 ·have hm := condF hb1 hm
  rewrite [hb1]
  refine wS_pure 6 [(4, .bool (false)), (13, .bool (false)), (12, undef), (11, undef), (10, undef), (9, undef)] (by kernel_rfl) ?_
  refine wS_end (by rfl) ?_
  refine eX_then ?_
  refine cW_ret ?_
  have hq : (some false : Option ((Bool))) = some _ := hm
  replace hq := someE hq
  subst hq
  refine eX_ret (vs := [.bool (false)]) [.tmp 4] (by rfl) ⟨by (show lkE _ _ _ = _); kernel_rfl, trivial⟩ ?_
  exact ⟨rfl, hB⟩

set_option maxRecDepth 100000 in
/-- impl.IsOpen -/
theorem c_impl_IsOpen {w0 : World} {l0_0 : List (List (Int))} {A0_0 : Option Addr} {cap0_0 : Nat} {fp0_0 : List Nat} {p1_0 : Int} {p1_1 : Int} {r : (Bool)} (hm : m_impl_IsOpen l0_0 p1_0 p1_1 = some r) (F0_0 : SlR 1 encI w0 fp0_0 A0_0 l0_0) :
  Calls Try.prog 12 #[.agg #[.slice A0_0 (l0_0).length cap0_0], .agg #[.int .i64 (p1_0), .int .i64 (p1_1)]] w0 fun e w' => e = .returned (.bool (r)) ∧ Chg [] w0 w' := by
 have L0_0 := F0_0.low
 have hB : Chg [] w0 w0 := Chg.refl _ _
 have hZ := Nat.le_refl w0.heap.size
 unfold m_impl_IsOpen at hm
 refine enterE (N := 11) Try.func12 (by rfl) Try.ntmps12 (by simp) [(0, .agg #[.slice A0_0 (l0_0).length cap0_0]), (1, .agg #[.int .i64 (p1_0), .int .i64 (p1_1)])] (by rfl) (by kernel_rfl) (fun a => ?_)
 refine cW_seq ?_
 refine cW_region ?_
 refine wS_box (d := 2) (T := 26) (x := .agg #[.slice A0_0 (l0_0).length cap0_0]) (by kernel_rfl) ?_
 intro b1 w1 G1 F1 hc1
 replace F1 : Cl w1 b1 26 [.slice A0_0 (l0_0).length cap0_0] := F1
 replace F0_0 := F0_0.chg hc1 Dj.nil
 replace hB := hB.inS hc1 inNil
 replace G1 := Nat.le_trans hZ G1
 replace hZ := Nat.le_trans hZ hc1.size
 refine wS_box (d := 3) (T := 29) (x := .agg #[.int .i64 (p1_0), .int .i64 (p1_1)]) (by kernel_rfl) ?_
 intro b2 w2 G2 F2 hc2
 replace F2 : Cl w2 b2 29 [.int .i64 (p1_0), .int .i64 (p1_1)] := F2
 have D1 : Dj [b1] [b2] := Dj.of (lt1 F1.lt) (low1 G2)
 replace F0_0 := F0_0.chg hc2 Dj.nil
 replace F1 := F1.chg hc2 notNil
 replace hB := hB.inS hc2 inNil
 replace G2 := Nat.le_trans hZ G2
 replace hZ := Nat.le_trans hZ hc2.size
 refine wS_pure 1 [(4, .bool (false))] (by kernel_rfl) ?_
 refine wS_end (by rfl) ?_
 refine eX_then ?_
 refine cW_seq ?_
 refine cW_region ?_
 refine wS_loadA (d := 5) (T := 26) (ad := ⟨b1, 0, none⟩) (vs := [.slice A0_0 (l0_0).length cap0_0]) (by kernel_rfl) vt26 (fun i u hu => box_cells F1 0 hu (by rfl)) ?_
 obtain ⟨y1, hy1, hm⟩ := bindE hm
 refine wS_calls (d := 6) (f := 32) (vs := [.agg #[.slice A0_0 (l0_0).length cap0_0]]) (by kernel_rfl) ent32 (c_impl_ValidMaze hy1 F0_0) ?_
 rintro _ w3 ⟨rfl, hc3⟩
 replace F0_0 := F0_0.chg hc3 Dj.nil
 replace F1 := F1.chg hc3 notNil
 replace F2 := F2.chg hc3 notNil
 replace hB := hB.inS hc3 inNil
 replace hZ := Nat.le_trans hZ hc3.size
 refine ⟨.bool (y1), rfl, ?_⟩
 refine wS_pure 1 [(7, .bool (y1))] (by kernel_rfl) ?_
 refine wS_bool y1 (fun hb1 => ?_) (fun hb1 => ?_)
 ·have hm := condT hb1 hm
  rewrite [hb1]
  refine wS_loadA (d := 8) (T := 29) (ad := ⟨b2, 0, none⟩) (vs := [.int .i64 (p1_0), .int .i64 (p1_1)]) (by kernel_rfl) vt29 (fun i u hu => box_cells F2 0 hu (by rfl)) ?_
  obtain ⟨y2, hy2, hm⟩ := bindE hm
  refine wS_calls (d := 9) (f := 33) (vs := [.pointer (some ⟨b1, 0, none⟩), .agg #[.int .i64 (p1_0), .int .i64 (p1_1)]]) (by kernel_rfl) ent33 (c_impl_Maze_open_bimplMaze hy2 F0_0 F1) ?_
  rintro _ w4 ⟨rfl, hc4⟩
  replace F0_0 := F0_0.chg hc4 Dj.nil
  replace F1 := F1.chg hc4 notNil
  replace F2 := F2.chg hc4 notNil
  replace hB := hB.inS hc4 inNil
  replace hZ := Nat.le_trans hZ hc4.size
  refine ⟨.bool (y2), rfl, ?_⟩
  refine wS_pure 2 [(4, .bool (y2)), (10, .bool (y2))] (by kernel_rfl) ?_
  refine wS_end (by rfl) ?_
  refine eX_then ?_
  refine cW_ret ?_
  have hq : (some y2 : Option ((Bool))) = some _ := hm
  replace hq := someE hq
  subst hq
  refine eX_ret (vs := [.bool (y2)]) [.tmp 4] (by rfl) ⟨by (show lkE _ _ _ = _); kernel_rfl, trivial⟩ ?_
  exact ⟨rfl, hB⟩
 ·have hm := condF hb1 hm
  rewrite [hb1]
  refine wS_pure 4 [(4, .bool (false)), (10, .bool (false)), (9, undef), (8, undef)] (by kernel_rfl) ?_
  refine wS_end (by rfl) ?_
  refine eX_then ?_
  refine cW_ret ?_
  have hq : (some false : Option ((Bool))) = some _ := hm
  replace hq := someE hq
  subst hq
  refine eX_ret (vs := [.bool (false)]) [.tmp 4] (by rfl) ⟨by (show lkE _ _ _ = _); kernel_rfl, trivial⟩ ?_
  exact ⟨rfl, hB⟩

set_option maxRecDepth 100000 in
/-- impl.size -/
theorem c_impl_size {w0 : World} {p0 : Int} {r : (Int)} (hm : m_impl_size p0 = some r)  :
  Calls Try.prog 51 #[.int .i64 (p0)] w0 fun e w' => e = .returned (.int .i64 (r)) ∧ Chg [] w0 w' := by
 have hB : Chg [] w0 w0 := Chg.refl _ _
 have hZ := Nat.le_refl w0.heap.size
 unfold m_impl_size at hm
 refine enterE (N := 7) Try.func51 (by rfl) Try.ntmps51 (by simp) [(0, .int .i64 (p0))] (by rfl) (by kernel_rfl) (fun a => ?_)
 refine cW_seq ?_
 refine cW_region ?_
 refine wS_pure 1 [(2, .int .i64 (0))] (by kernel_rfl) ?_
 refine wS_end (by rfl) ?_
 refine eX_then ?_
 refine cW_seq ?_
 refine cW_region ?_
 refine wS_pure 5 [(2, .int .i64 (if (wr (0 - p0)) > p0 then (wr (0 - p0)) else p0)), (6, .int .i64 (if (wr (0 - p0)) > p0 then (wr (0 - p0)) else p0)), (5, .int .i64 (wr (0 - p0))), (4, .int .i64 (p0)), (3, .int .i64 (p0))] (by kernel_rfl) ?_
 refine wS_end (by rfl) ?_
 refine eX_then ?_
 refine cW_ret ?_
 have hq : (some (if (wr (0 - p0)) > p0 then (wr (0 - p0)) else p0) : Option ((Int))) = some _ := hm
 replace hq := someE hq
 subst hq
 refine eX_ret (vs := [.int .i64 (if (wr (0 - p0)) > p0 then (wr (0 - p0)) else p0)]) [.tmp 2] (by rfl) ⟨by (show lkE _ _ _ = _); kernel_rfl, trivial⟩ ?_
 exact ⟨rfl, hB⟩

set_option maxRecDepth 100000 in
/-- impl.far -/
theorem c_impl_far {w0 : World} {p0_0 : Int} {p0_1 : Int} {p1_0 : Int} {p1_1 : Int} {r : (Int)} (hm : m_impl_far p0_0 p0_1 p1_0 p1_1 = some r)  :
  Calls Try.prog 31 #[.agg #[.int .i64 (p0_0), .int .i64 (p0_1)], .agg #[.int .i64 (p1_0), .int .i64 (p1_1)]] w0 fun e w' => e = .returned (.int .i64 (r)) ∧ Chg [] w0 w' := by
 have hB : Chg [] w0 w0 := Chg.refl _ _
 have hZ := Nat.le_refl w0.heap.size
 unfold m_impl_far at hm
 refine enterE (N := 18) Try.func31 (by rfl) Try.ntmps31 (by simp) [(0, .agg #[.int .i64 (p0_0), .int .i64 (p0_1)]), (1, .agg #[.int .i64 (p1_0), .int .i64 (p1_1)])] (by rfl) (by kernel_rfl) (fun a => ?_)
 refine cW_seq ?_
 refine cW_region ?_
 refine wS_box (d := 2) (T := 29) (x := .agg #[.int .i64 (p0_0), .int .i64 (p0_1)]) (by kernel_rfl) ?_
 intro b1 w1 G1 F1 hc1
 replace F1 : Cl w1 b1 29 [.int .i64 (p0_0), .int .i64 (p0_1)] := F1
 replace hB := hB.inS hc1 inNil
 replace G1 := Nat.le_trans hZ G1
 replace hZ := Nat.le_trans hZ hc1.size
 refine wS_box (d := 3) (T := 29) (x := .agg #[.int .i64 (p1_0), .int .i64 (p1_1)]) (by kernel_rfl) ?_
 intro b2 w2 G2 F2 hc2
 replace F2 : Cl w2 b2 29 [.int .i64 (p1_0), .int .i64 (p1_1)] := F2
 have D1 : Dj [b1] [b2] := Dj.of (lt1 F1.lt) (low1 G2)
 replace F1 := F1.chg hc2 notNil
 replace hB := hB.inS hc2 inNil
 replace G2 := Nat.le_trans hZ G2
 replace hZ := Nat.le_trans hZ hc2.size
 refine wS_pure 1 [(4, .int .i64 (0))] (by kernel_rfl) ?_
 refine wS_end (by rfl) ?_
 refine eX_then ?_
 refine cW_seq ?_
 refine cW_drawnTail [] 11 (by kernel_rfl) (by kernel_rfl) (fun w3 hc3 => ?_)
 replace F1 := F1.chg hc3 notNil
 replace F2 := F2.chg hc3 notNil
 replace hB := hB.inS hc3 inNil
 replace hZ := Nat.le_trans hZ hc3.size
 have hS := Chg.refl [] w3
 have Z1 := F1
 have Z2 := F2
 refine wH_take [0] [0] [(5, .pointer (some ⟨b1, 0, none⟩))] (by kernel_rfl) (qT (qT qZ)) (by kernel_rfl) ?_
 refine wH_load1 (i := 1) (d := 6) (T := 2) (ad := ⟨b1, 0, none⟩) (v := .int .i64 (p0_0)) (by kernel_rfl) (qT (qT qZ)) (by kernel_rfl) (by kernel_rfl) vt2 (fun W hW => (Z1.chg hW notNil).cell 0) ?_
 refine wH_take [2] [2, 1, 0] [(7, .pointer (some ⟨b2, 0, none⟩))] (by kernel_rfl) (qT (qT qZ)) (by kernel_rfl) ?_
 refine wH_load1 (i := 3) (d := 8) (T := 2) (ad := ⟨b2, 0, none⟩) (v := .int .i64 (p1_0)) (by kernel_rfl) (qT (qT qZ)) (by kernel_rfl) (by kernel_rfl) vt2 (fun W hW => (Z2.chg hW notNil).cell 0) ?_
 refine wH_take [4, 6] [6, 4, 3, 2, 1, 0] [(11, .pointer (some ⟨b1, 1, none⟩)), (9, .int .i64 (wr (p0_0 - p1_0)))] (by kernel_rfl) (qT (qT qZ)) (by kernel_rfl) ?_
 refine wH_load1 (i := 7) (d := 12) (T := 2) (ad := ⟨b1, 1, none⟩) (v := .int .i64 (p0_1)) (by kernel_rfl) (qT (qT qZ)) (by kernel_rfl) (by kernel_rfl) vt2 (fun W hW => (Z1.chg hW notNil).cell 1) ?_
 refine wH_take [8] [8, 7, 6, 4, 3, 2, 1, 0] [(13, .pointer (some ⟨b2, 1, none⟩))] (by kernel_rfl) (qT (qT qZ)) (by kernel_rfl) ?_
 refine wH_load1 (i := 9) (d := 14) (T := 2) (ad := ⟨b2, 1, none⟩) (v := .int .i64 (p1_1)) (by kernel_rfl) (qT (qT qZ)) (by kernel_rfl) (by kernel_rfl) vt2 (fun W hW => (Z2.chg hW notNil).cell 1) ?_
 refine wH_take [10] [10, 9, 8, 7, 6, 4, 3, 2, 1, 0] [(15, .int .i64 (wr (p0_1 - p1_1)))] (by kernel_rfl) (qT (qT qZ)) (by kernel_rfl) ?_
 refine wH_all [5] (by rfl) (by kernel_rfl) (by simp) ⟨⟨by kernel_rfl, ?_⟩, trivial⟩
 obtain ⟨y1, hy1, hm⟩ := bindE hm
 refine wS_calls (d := 10) (f := 51) (vs := [.int .i64 (wr (p0_0 - p1_0))]) (by kernel_rfl) ent51 (c_impl_size hy1) ?_
 rintro _ w4 ⟨rfl, hc4⟩
 replace F1 := F1.chg hc4 notNil
 replace F2 := F2.chg hc4 notNil
 replace hB := hB.inS hc4 inNil
 have hSz := hS
 replace hS := hS.inS hc4 inNil
 replace hZ := Nat.le_trans hZ hc4.size
 refine ⟨.int .i64 (y1), rfl, ?_⟩
 refine wS_end (by kernel_rfl) ?_
 refine eX_KH hS ?_
 refine wH_done (by kernel_rfl) ?_
 refine eX_tail ?_
 obtain ⟨y2, hy2, hm⟩ := bindE hm
 refine wS_calls (d := 16) (f := 51) (vs := [.int .i64 (wr (p0_1 - p1_1))]) (by kernel_rfl) ent51 (c_impl_size hy2) ?_
 rintro _ w5 ⟨rfl, hc5⟩
 replace F1 := F1.chg hc5 notNil
 replace F2 := F2.chg hc5 notNil
 replace hB := hB.inS hc5 inNil
 replace hZ := Nat.le_trans hZ hc5.size
 refine ⟨.int .i64 (y2), rfl, ?_⟩
 refine wS_pure 2 [(4, .int .i64 (wr (y1 + y2))), (17, .int .i64 (wr (y1 + y2)))] (by kernel_rfl) ?_
 refine wS_end (by rfl) ?_
 refine eX_then ?_
 refine cW_ret ?_
 have hq : (some (wr (y1 + y2)) : Option ((Int))) = some _ := hm
 replace hq := someE hq
 subst hq
 refine eX_ret (vs := [.int .i64 (wr (y1 + y2))]) [.tmp 4] (by rfl) ⟨by (show lkE _ _ _ = _); kernel_rfl, trivial⟩ ?_
 exact ⟨rfl, hB⟩

set_option maxRecDepth 100000 in
/-- impl.blockOk -/
theorem c_impl_blockOk {w0 : World} {l0_0 : List (List (Int))} {A0_0 : Option Addr} {cap0_0 : Nat} {fp0_0 : List Nat} {p1_0 : Int} {p1_1 : Int} {p2_0 : Int} {p2_1 : Int} {r : (Bool)} (hm : m_impl_blockOk l0_0 p1_0 p1_1 p2_0 p2_1 = some r) (F0_0 : SlR 1 encI w0 fp0_0 A0_0 l0_0) :
  Calls Try.prog 28 #[.agg #[.slice A0_0 (l0_0).length cap0_0], .agg #[.int .i64 (p1_0), .int .i64 (p1_1)], .agg #[.int .i64 (p2_0), .int .i64 (p2_1)]] w0 fun e w' => e = .returned (.bool (r)) ∧ Chg [] w0 w' := by
 have L0_0 := F0_0.low
 have hB : Chg [] w0 w0 := Chg.refl _ _
 have hZ := Nat.le_refl w0.heap.size
 unfold m_impl_blockOk at hm
 refine enterE (N := 20) Try.func28 (by rfl) Try.ntmps28 (by simp) [(0, .agg #[.slice A0_0 (l0_0).length cap0_0]), (1, .agg #[.int .i64 (p1_0), .int .i64 (p1_1)]), (2, .agg #[.int .i64 (p2_0), .int .i64 (p2_1)])] (by rfl) (by kernel_rfl) (fun a => ?_)
 refine cW_seq ?_
 refine cW_region ?_
 refine wS_box (d := 3) (T := 26) (x := .agg #[.slice A0_0 (l0_0).length cap0_0]) (by kernel_rfl) ?_
 intro b1 w1 G1 F1 hc1
 replace F1 : Cl w1 b1 26 [.slice A0_0 (l0_0).length cap0_0] := F1
 replace F0_0 := F0_0.chg hc1 Dj.nil
 replace hB := hB.inS hc1 inNil
 replace G1 := Nat.le_trans hZ G1
 replace hZ := Nat.le_trans hZ hc1.size
 refine wS_box (d := 4) (T := 29) (x := .agg #[.int .i64 (p1_0), .int .i64 (p1_1)]) (by kernel_rfl) ?_
 intro b2 w2 G2 F2 hc2
 replace F2 : Cl w2 b2 29 [.int .i64 (p1_0), .int .i64 (p1_1)] := F2
 have D1 : Dj [b1] [b2] := Dj.of (lt1 F1.lt) (low1 G2)
 replace F0_0 := F0_0.chg hc2 Dj.nil
 replace F1 := F1.chg hc2 notNil
 replace hB := hB.inS hc2 inNil
 replace G2 := Nat.le_trans hZ G2
 replace hZ := Nat.le_trans hZ hc2.size
 refine wS_box (d := 5) (T := 29) (x := .agg #[.int .i64 (p2_0), .int .i64 (p2_1)]) (by kernel_rfl) ?_
 intro b3 w3 G3 F3 hc3
 replace F3 : Cl w3 b3 29 [.int .i64 (p2_0), .int .i64 (p2_1)] := F3
 have D2 : Dj [b1] [b3] := Dj.of (lt1 F1.lt) (low1 G3)
 have D3 : Dj [b2] [b3] := Dj.of (lt1 F2.lt) (low1 G3)
 replace F0_0 := F0_0.chg hc3 Dj.nil
 replace F1 := F1.chg hc3 notNil
 replace F2 := F2.chg hc3 notNil
 replace hB := hB.inS hc3 inNil
 replace G3 := Nat.le_trans hZ G3
 replace hZ := Nat.le_trans hZ hc3.size
 refine wS_pure 1 [(6, .bool (false))] (by kernel_rfl) ?_
 refine wS_end (by rfl) ?_
 refine eX_then ?_
 refine cW_seq ?_
 refine cW_region ?_
 refine wS_loadA (d := 7) (T := 26) (ad := ⟨b1, 0, none⟩) (vs := [.slice A0_0 (l0_0).length cap0_0]) (by kernel_rfl) vt26 (fun i u hu => box_cells F1 0 hu (by rfl)) ?_
 refine wS_loadA (d := 8) (T := 29) (ad := ⟨b2, 0, none⟩) (vs := [.int .i64 (p1_0), .int .i64 (p1_1)]) (by kernel_rfl) vt29 (fun i u hu => box_cells F2 0 hu (by rfl)) ?_
 obtain ⟨y1, hy1, hm⟩ := bindE hm
 refine wS_calls (d := 9) (f := 12) (vs := [.agg #[.slice A0_0 (l0_0).length cap0_0], .agg #[.int .i64 (p1_0), .int .i64 (p1_1)]]) (by kernel_rfl) ent12 (c_impl_IsOpen hy1 F0_0) ?_
 rintro _ w4 ⟨rfl, hc4⟩
 replace F0_0 := F0_0.chg hc4 Dj.nil
 replace F1 := F1.chg hc4 notNil
 replace F2 := F2.chg hc4 notNil
 replace F3 := F3.chg hc4 notNil
 replace hB := hB.inS hc4 inNil
 replace hZ := Nat.le_trans hZ hc4.size
 refine ⟨.bool (y1), rfl, ?_⟩
 refine wS_pure 1 [(10, .bool (y1))] (by kernel_rfl) ?_
 refine wS_bool y1 (fun hb1 => ?_) (fun hb1 => ?_)
 ·have hm := condT hb1 hm
  rewrite [hb1]
  refine wS_loadA (d := 11) (T := 29) (ad := ⟨b3, 0, none⟩) (vs := [.int .i64 (p2_0), .int .i64 (p2_1)]) (by kernel_rfl) vt29 (fun i u hu => box_cells F3 0 hu (by rfl)) ?_
  obtain ⟨y2, hy2, hm⟩ := bindE hm
  refine wS_calls (d := 12) (f := 33) (vs := [.pointer (some ⟨b1, 0, none⟩), .agg #[.int .i64 (p2_0), .int .i64 (p2_1)]]) (by kernel_rfl) ent33 (c_impl_Maze_open_bimplMaze hy2 F0_0 F1) ?_
  rintro _ w5 ⟨rfl, hc5⟩
  replace F0_0 := F0_0.chg hc5 Dj.nil
  replace F1 := F1.chg hc5 notNil
  replace F2 := F2.chg hc5 notNil
  replace F3 := F3.chg hc5 notNil
  replace hB := hB.inS hc5 inNil
  replace hZ := Nat.le_trans hZ hc5.size
  refine ⟨.bool (y2), rfl, ?_⟩
  refine wS_pure 2 [(14, .bool (y2)), (13, .bool (y2))] (by kernel_rfl) ?_
  refine wS_bool y2 (fun hb2 => ?_) (fun hb2 => ?_)
  ·have hm := condT hb2 hm
   rewrite [hb2]
   refine wS_loadA (d := 15) (T := 29) (ad := ⟨b2, 0, none⟩) (vs := [.int .i64 (p1_0), .int .i64 (p1_1)]) (by kernel_rfl) vt29 (fun i u hu => box_cells F2 0 hu (by rfl)) ?_
   refine wS_loadA (d := 16) (T := 29) (ad := ⟨b3, 0, none⟩) (vs := [.int .i64 (p2_0), .int .i64 (p2_1)]) (by kernel_rfl) vt29 (fun i u hu => box_cells F3 0 hu (by rfl)) ?_
   obtain ⟨y3, hy3, hm⟩ := bindE hm
   refine wS_calls (d := 17) (f := 31) (vs := [.agg #[.int .i64 (p1_0), .int .i64 (p1_1)], .agg #[.int .i64 (p2_0), .int .i64 (p2_1)]]) (by kernel_rfl) ent31 (c_impl_far hy3) ?_
   rintro _ w6 ⟨rfl, hc6⟩
   replace F0_0 := F0_0.chg hc6 Dj.nil
   replace F1 := F1.chg hc6 notNil
   replace F2 := F2.chg hc6 notNil
   replace F3 := F3.chg hc6 notNil
   replace hB := hB.inS hc6 inNil
   replace hZ := Nat.le_trans hZ hc6.size
   refine ⟨.int .i64 (y3), rfl, ?_⟩
   refine wS_pure 3 [(6, .bool (decide (y3 > 1))), (19, .bool (decide (y3 > 1))), (18, .bool (decide (y3 > 1)))] (by kernel_rfl) ?_
   refine wS_end (by rfl) ?_
   refine eX_then ?_
   refine cW_ret ?_
   have hq : (some (decide (y3 > 1)) : Option ((Bool))) = some _ := hm
   replace hq := someE hq
   subst hq
   refine eX_ret (vs := [.bool (decide (y3 > 1))]) [.tmp 6] (by rfl) ⟨by (show lkE _ _ _ = _); kernel_rfl, trivial⟩ ?_
   exact ⟨rfl, hB⟩
  ·have hm := condF hb2 hm
   rewrite [hb2]
   refine wS_pure 6 [(6, .bool (false)), (19, .bool (false)), (18, undef), (17, undef), (16, undef), (15, undef)] (by kernel_rfl) ?_
   refine wS_end (by rfl) ?_
   refine eX_then ?_
   refine cW_ret ?_
   have hq : (some false : Option ((Bool))) = some _ := hm
   replace hq := someE hq
   subst hq
   refine eX_ret (vs := [.bool (false)]) [.tmp 6] (by rfl) ⟨by (show lkE _ _ _ = _); kernel_rfl, trivial⟩ ?_
   exact ⟨rfl, hB⟩
 ·have hm := condF hb1 hm
  rewrite [hb1]
  refine wS_pure 10 [(6, .bool (false)), (19, .bool (false)), (18, undef), (17, undef), (16, undef), (15, undef), (14, .bool (false)), (13, .bool (false)), (12, undef), (11, undef)] (by kernel_rfl) ?_
  refine wS_end (by rfl) ?_
  refine eX_then ?_
  refine cW_ret ?_
  have hq : (some false : Option ((Bool))) = some _ := hm
  replace hq := someE hq
  subst hq
  refine eX_ret (vs := [.bool (false)]) [.tmp 6] (by rfl) ⟨by (show lkE _ _ _ = _); kernel_rfl, trivial⟩ ?_
  exact ⟨rfl, hB⟩

set_option maxRecDepth 100000 in
/-- impl.next -/
theorem c_impl_next {w0 : World} {p0_0 : Int} {p0_1 : Int} {p1 : Int} {r : (Int × Int)} (hm : m_impl_next p0_0 p0_1 p1 = some r)  :
  Calls Try.prog 56 #[.agg #[.int .i64 (p0_0), .int .i64 (p0_1)], .int .i64 (p1)] w0 fun e w' => e = .returned (.agg #[.int .i64 (r.1), .int .i64 (r.2)]) ∧ Chg [] w0 w' := by
 have hB : Chg [] w0 w0 := Chg.refl _ _
 have hZ := Nat.le_refl w0.heap.size
 unfold m_impl_next at hm
 refine enterE (N := 36) Try.func56 (by rfl) Try.ntmps56 (by simp) [(0, .agg #[.int .i64 (p0_0), .int .i64 (p0_1)]), (1, .int .i64 (p1))] (by rfl) (by kernel_rfl) (fun a => ?_)
 refine cW_seq ?_
 refine cW_region ?_
 refine wS_box (d := 2) (T := 29) (x := .agg #[.int .i64 (p0_0), .int .i64 (p0_1)]) (by kernel_rfl) ?_
 intro b1 w1 G1 F1 hc1
 replace F1 : Cl w1 b1 29 [.int .i64 (p0_0), .int .i64 (p0_1)] := F1
 replace hB := hB.inS hc1 inNil
 replace G1 := Nat.le_trans hZ G1
 replace hZ := Nat.le_trans hZ hc1.size
 refine wS_alloc (d := 4) (T := 29) (z := .agg #[.int .i64 (0), .int .i64 (0)]) (by kernel_rfl) (by kernel_rfl) ?_
 intro b2 w2 G2 F2 hc2
 replace F2 : Cl w2 b2 29 [.int .i64 (0), .int .i64 (0)] := F2
 have D1 : Dj [b1] [b2] := Dj.of (lt1 F1.lt) (low1 G2)
 replace F1 := F1.chg hc2 notNil
 replace hB := hB.inS hc2 inNil
 replace G2 := Nat.le_trans hZ G2
 replace hZ := Nat.le_trans hZ hc2.size
 refine wS_end (by rfl) ?_
 refine eX_then ?_
 refine cW_seq ?_
 refine cW_seq ?_
 refine cW_region ?_
 refine wS_pure 1 [(5, .int .i64 (p1))] (by kernel_rfl) ?_
 refine wS_end (by rfl) ?_
 refine eX_then ?_
 refine cW_block ?_
 refine cW_seq ?_
 refine cW_region ?_
 refine wS_pure 2 [(6, .bool (p1 == 0)), (7, .bool (p1 == 0))] (by kernel_rfl) ?_
 refine wS_end (by rfl) ?_
 refine eX_then ?_
 refine cW_cond (t := p1 == 0) (by kernel_rfl) (fun hb1 => ?_) (fun hb1 => ?_)
 ·have hm := condT hb1 hm
  refine cW_seq ?_
  refine cW_region ?_
  refine wS_pure 1 [(8, .pointer (some ⟨b1, 0, none⟩))] (by kernel_rfl) ?_
  refine wS_load1 (d := 9) (T := 2) (ad := ⟨b1, 0, none⟩) (v := .int .i64 (p0_0)) (by kernel_rfl) vt2 ((F1).cell 0) ?_
  refine wS_pure 1 [(10, .pointer (some ⟨b1, 1, none⟩))] (by kernel_rfl) ?_
  refine wS_load1 (d := 11) (T := 2) (ad := ⟨b1, 1, none⟩) (v := .int .i64 (p0_1)) (by kernel_rfl) vt2 ((F1).cell 1) ?_
  refine wS_pure 2 [(13, .agg #[.int .i64 (p0_0), .int .i64 (wr (p0_1 - 1))]), (12, .int .i64 (wr (p0_1 - 1)))] (by kernel_rfl) ?_
  refine wS_store (T := 29) (g := b2) (o := 0) (ad := ⟨b2, 0, none⟩) (v := .agg #[.int .i64 (p0_0), .int .i64 (wr (p0_1 - 1))]) (vs := [.int .i64 (p0_0), .int .i64 (wr (p0_1 - 1))]) (by kernel_rfl) (by rfl) sz29 (by rfl) (by rfl) F2 (by simp only [List.length_cons, List.length_nil]; omega) ?_
  intro w3 F3 hc3
  replace F1 := F1.chg hc3 (dj1 D1)
  replace hB := hB.inS hc3 (inLow (low1 G2))
  replace hZ := Nat.le_trans hZ hc3.size
  replace F3 : Cl w3 b2 29 [.int .i64 (p0_0), .int .i64 (wr (p0_1 - 1))] := F3
  clear F2
  refine wS_end (by rfl) ?_
  refine eX_then ?_
  refine cW_ret ?_
  refine eX_block_ret ?_
  refine eX_then_ret ?_
  have hq : (some ((p0_0, wr (p0_1 - 1))) : Option ((Int × Int))) = some _ := hm
  replace hq := someE hq
  subst hq
  refine eX_ret (vs := [.agg #[.int .i64 (p0_0), .int .i64 (wr (p0_1 - 1))]]) [.cell 4 29] (by rfl) ⟨⟨⟨b2, 0, none⟩, by kernel_rfl, run_loadVarA (vs := [.int .i64 (p0_0), .int .i64 (wr (p0_1 - 1))]) vt29 (fun i u hu => by exact box_cells F3 0 hu (by rfl))⟩, trivial⟩ ?_
  exact ⟨rfl, hB⟩
 ·have hm := condF hb1 hm
  refine cW_seq ?_
  refine cW_region ?_
  refine wS_pure 2 [(14, .bool (p1 == 1)), (15, .bool (p1 == 1))] (by kernel_rfl) ?_
  refine wS_end (by rfl) ?_
  refine eX_then ?_
  refine cW_cond (t := p1 == 1) (by kernel_rfl) (fun hb2 => ?_) (fun hb2 => ?_)
  ·have hm := condT hb2 hm
   refine cW_seq ?_
   refine cW_region ?_
   refine wS_pure 1 [(16, .pointer (some ⟨b1, 0, none⟩))] (by kernel_rfl) ?_
   refine wS_load1 (d := 17) (T := 2) (ad := ⟨b1, 0, none⟩) (v := .int .i64 (p0_0)) (by kernel_rfl) vt2 ((F1).cell 0) ?_
   refine wS_pure 2 [(19, .pointer (some ⟨b1, 1, none⟩)), (18, .int .i64 (wr (p0_0 - 1)))] (by kernel_rfl) ?_
   refine wS_load1 (d := 20) (T := 2) (ad := ⟨b1, 1, none⟩) (v := .int .i64 (p0_1)) (by kernel_rfl) vt2 ((F1).cell 1) ?_
   refine wS_pure 1 [(21, .agg #[.int .i64 (wr (p0_0 - 1)), .int .i64 (p0_1)])] (by kernel_rfl) ?_
   refine wS_store (T := 29) (g := b2) (o := 0) (ad := ⟨b2, 0, none⟩) (v := .agg #[.int .i64 (wr (p0_0 - 1)), .int .i64 (p0_1)]) (vs := [.int .i64 (wr (p0_0 - 1)), .int .i64 (p0_1)]) (by kernel_rfl) (by rfl) sz29 (by rfl) (by rfl) F2 (by simp only [List.length_cons, List.length_nil]; omega) ?_
   intro w4 F4 hc4
   replace F1 := F1.chg hc4 (dj1 D1)
   replace hB := hB.inS hc4 (inLow (low1 G2))
   replace hZ := Nat.le_trans hZ hc4.size
   replace F4 : Cl w4 b2 29 [.int .i64 (wr (p0_0 - 1)), .int .i64 (p0_1)] := F4
   clear F2
   refine wS_end (by rfl) ?_
   refine eX_then ?_
   refine cW_ret ?_
   refine eX_block_ret ?_
   refine eX_then_ret ?_
   have hq : (some ((wr (p0_0 - 1), p0_1)) : Option ((Int × Int))) = some _ := hm
   replace hq := someE hq
   subst hq
   refine eX_ret (vs := [.agg #[.int .i64 (wr (p0_0 - 1)), .int .i64 (p0_1)]]) [.cell 4 29] (by rfl) ⟨⟨⟨b2, 0, none⟩, by kernel_rfl, run_loadVarA (vs := [.int .i64 (wr (p0_0 - 1)), .int .i64 (p0_1)]) vt29 (fun i u hu => by exact box_cells F4 0 hu (by rfl))⟩, trivial⟩ ?_
   exact ⟨rfl, hB⟩
  ·have hm := condF hb2 hm
   refine cW_seq ?_
   refine cW_region ?_
   refine wS_pure 2 [(22, .bool (p1 == 2)), (23, .bool (p1 == 2))] (by kernel_rfl) ?_
   refine wS_end (by rfl) ?_
   refine eX_then ?_
   refine cW_cond (t := p1 == 2) (by kernel_rfl) (fun hb3 => ?_) (fun hb3 => ?_)
   ·have hm := condT hb3 hm
    refine cW_seq ?_
    refine cW_region ?_
    refine wS_pure 1 [(24, .pointer (some ⟨b1, 0, none⟩))] (by kernel_rfl) ?_
    refine wS_load1 (d := 25) (T := 2) (ad := ⟨b1, 0, none⟩) (v := .int .i64 (p0_0)) (by kernel_rfl) vt2 ((F1).cell 0) ?_
    refine wS_pure 2 [(27, .pointer (some ⟨b1, 1, none⟩)), (26, .int .i64 (wr (p0_0 + 1)))] (by kernel_rfl) ?_
    refine wS_load1 (d := 28) (T := 2) (ad := ⟨b1, 1, none⟩) (v := .int .i64 (p0_1)) (by kernel_rfl) vt2 ((F1).cell 1) ?_
    refine wS_pure 1 [(29, .agg #[.int .i64 (wr (p0_0 + 1)), .int .i64 (p0_1)])] (by kernel_rfl) ?_
    refine wS_store (T := 29) (g := b2) (o := 0) (ad := ⟨b2, 0, none⟩) (v := .agg #[.int .i64 (wr (p0_0 + 1)), .int .i64 (p0_1)]) (vs := [.int .i64 (wr (p0_0 + 1)), .int .i64 (p0_1)]) (by kernel_rfl) (by rfl) sz29 (by rfl) (by rfl) F2 (by simp only [List.length_cons, List.length_nil]; omega) ?_
    intro w5 F5 hc5
    replace F1 := F1.chg hc5 (dj1 D1)
    replace hB := hB.inS hc5 (inLow (low1 G2))
    replace hZ := Nat.le_trans hZ hc5.size
    replace F5 : Cl w5 b2 29 [.int .i64 (wr (p0_0 + 1)), .int .i64 (p0_1)] := F5
    clear F2
    refine wS_end (by rfl) ?_
    refine eX_then ?_
    refine cW_ret ?_
    refine eX_block_ret ?_
    refine eX_then_ret ?_
    have hq : (some ((wr (p0_0 + 1), p0_1)) : Option ((Int × Int))) = some _ := hm
    replace hq := someE hq
    subst hq
    refine eX_ret (vs := [.agg #[.int .i64 (wr (p0_0 + 1)), .int .i64 (p0_1)]]) [.cell 4 29] (by rfl) ⟨⟨⟨b2, 0, none⟩, by kernel_rfl, run_loadVarA (vs := [.int .i64 (wr (p0_0 + 1)), .int .i64 (p0_1)]) vt29 (fun i u hu => by exact box_cells F5 0 hu (by rfl))⟩, trivial⟩ ?_
    exact ⟨rfl, hB⟩
   ·have hm := condF hb3 hm
    refine cW_skip ?_
    refine eX_block ?_
    refine eX_then ?_
    refine cW_seq ?_
    refine cW_region ?_
    refine wS_pure 1 [(30, .pointer (some ⟨b1, 0, none⟩))] (by kernel_rfl) ?_
    refine wS_load1 (d := 31) (T := 2) (ad := ⟨b1, 0, none⟩) (v := .int .i64 (p0_0)) (by kernel_rfl) vt2 ((F1).cell 0) ?_
    refine wS_pure 1 [(32, .pointer (some ⟨b1, 1, none⟩))] (by kernel_rfl) ?_
    refine wS_load1 (d := 33) (T := 2) (ad := ⟨b1, 1, none⟩) (v := .int .i64 (p0_1)) (by kernel_rfl) vt2 ((F1).cell 1) ?_
    refine wS_pure 2 [(35, .agg #[.int .i64 (p0_0), .int .i64 (wr (p0_1 + 1))]), (34, .int .i64 (wr (p0_1 + 1)))] (by kernel_rfl) ?_
    refine wS_store (T := 29) (g := b2) (o := 0) (ad := ⟨b2, 0, none⟩) (v := .agg #[.int .i64 (p0_0), .int .i64 (wr (p0_1 + 1))]) (vs := [.int .i64 (p0_0), .int .i64 (wr (p0_1 + 1))]) (by kernel_rfl) (by rfl) sz29 (by rfl) (by rfl) F2 (by simp only [List.length_cons, List.length_nil]; omega) ?_
    intro w6 F6 hc6
    replace F1 := F1.chg hc6 (dj1 D1)
    replace hB := hB.inS hc6 (inLow (low1 G2))
    replace hZ := Nat.le_trans hZ hc6.size
    replace F6 : Cl w6 b2 29 [.int .i64 (p0_0), .int .i64 (wr (p0_1 + 1))] := F6
    clear F2
    refine wS_end (by rfl) ?_
    refine eX_then ?_
    refine cW_ret ?_
    have hq : (some ((p0_0, wr (p0_1 + 1))) : Option ((Int × Int))) = some _ := hm
    replace hq := someE hq
    subst hq
    refine eX_ret (vs := [.agg #[.int .i64 (p0_0), .int .i64 (wr (p0_1 + 1))]]) [.cell 4 29] (by rfl) ⟨⟨⟨b2, 0, none⟩, by kernel_rfl, run_loadVarA (vs := [.int .i64 (p0_0), .int .i64 (wr (p0_1 + 1))]) vt29 (fun i u hu => by exact box_cells F6 0 hu (by rfl))⟩, trivial⟩ ?_
    exact ⟨rfl, hB⟩

set_option maxRecDepth 100000 in
/-- impl.Point] -/
theorem c_slices_Clone_impl_Point_impl_Point {w0 : World} {l0 : List (Int × Int)} {A0 : Option Addr} {cap0 : Nat} {fp0 : List Nat} {r : (List (Int × Int))} (hm : m_slices_Clone_impl_Point_impl_Point l0 = some r) (F0 : Sl 2 encII w0 fp0 A0 l0) :
  Calls Try.prog 73 #[.slice A0 (l0).length cap0] w0 fun e w' => ∃ A100 cap100 fp100, e = .returned (.slice A100 (r).length cap100) ∧ Ow 2 encII 29 w' fp100 A100 cap100 r ∧ (∀ x ∈ fp100, w0.heap.size ≤ x) ∧ Chg [] w0 w' := by
 have L0 := F0.low
 have hB : Chg [] w0 w0 := Chg.refl _ _
 have hZ := Nat.le_refl w0.heap.size
 unfold m_slices_Clone_impl_Point_impl_Point at hm
 refine enterE (N := 8) Try.func73 (by rfl) Try.ntmps73 (by simp) [(0, .slice A0 (l0).length cap0)] (by rfl) (by kernel_rfl) (fun a => ?_)
 refine cW_seq ?_
 refine cW_region ?_
 refine wS_pure 1 [(2, .slice none 0 0)] (by kernel_rfl) ?_
 refine wS_end (by rfl) ?_
 refine eX_then ?_
 refine cW_seq ?_
 refine cW_seq ?_
 refine cW_region ?_
 refine wS_pure 1 [(3, .slice A0 (l0).length cap0)] (by kernel_rfl) ?_
 rcases A0 with _ | ad1
 ·have hl1 := F0.none_nil
  subst hl1
  replace hm : (some ([])) = some _ := Eq.trans (by kernel_rfl) hm
  refine wS_pure 1 [(4, .bool (true))] (by kernel_rfl) ?_
  refine wS_end (by rfl) ?_
  refine eX_then ?_
  refine cW_cond_t (by kernel_rfl) ?_
  refine cW_seq ?_
  refine cW_region ?_
  refine wS_pure 1 [(2, .slice none 0 0)] (by kernel_rfl) ?_
  refine wS_end (by rfl) ?_
  refine eX_then ?_
  refine cW_ret ?_
  refine eX_then_ret ?_
  have hq : (some ([]) : Option ((List (Int × Int)))) = some _ := hm
  replace hq := someE hq
  subst hq
  refine eX_ret (vs := [.slice none 0 0]) [.tmp 2] (by rfl) ⟨by (show lkE _ _ _ = _); kernel_rfl, trivial⟩ ?_
  exact ⟨none, 0, [], rfl, Ow.nil _, lowNil, hB⟩
 ·skip
  refine wS_pure 1 [(4, .bool (false))] (by kernel_rfl) ?_
  refine wS_end (by rfl) ?_
  refine eX_then ?_
  refine cW_cond_f (by kernel_rfl) ?_
  refine cW_skip ?_
  refine eX_then ?_
  refine cW_seq ?_
  refine cW_region ?_
  refine wS_bs0 (α := Int × Int) (enc := encII) (d := 5) (t := 31) (T := 29) (by kernel_rfl) el31 ?_
  intro b1 w1 G1 F1 hc1
  replace F0 := F0.chg hc1 Dj.nil
  replace hB := hB.inS hc1 inNil
  replace G1 := Nat.le_trans hZ G1
  replace G1 := low1 G1
  replace hZ := Nat.le_trans hZ hc1.size
  refine wS_pure 1 [(6, .slice (some ad1) (l0).length cap0)] (by kernel_rfl) ?_
  obtain ⟨_, hk1, hm⟩ := bindE hm
  replace hk1 := apE hk1
  refine wS_appendAny (enc := encII) (l := (([] : List (Int × Int)) : List (Int × Int))) (l2 := (l0 : List (Int × Int))) (d := 7) (t := 31) (T := 29) (A := (some ⟨b1, 0, none⟩)) (A2 := (some ad1)) (cap := 0) (cap2 := cap0) (by kernel_rfl) el31 encII_ok F1 F0 hk1 ?_
  intro w2 fp1 A1 cap1 F2 hc2 hp1
  have G2 := low_ap G1 hZ hp1
  replace F0 := F0.chg hc2 (Dj.of L0 G1)
  replace hB := hB.inS hc2 (inLow G1)
  replace hZ := Nat.le_trans hZ hc2.size
  refine wS_pure 1 [(2, .slice A1 ((([] : List (Int × Int))) ++ l0).length cap1)] (by kernel_rfl) ?_
  refine wS_end (by rfl) ?_
  refine eX_then ?_
  refine cW_ret ?_
  have hq : (some ((([] : List (Int × Int))) ++ l0) : Option ((List (Int × Int)))) = some _ := hm
  replace hq := someE hq
  subst hq
  refine eX_ret (vs := [.slice A1 ((([] : List (Int × Int))) ++ l0).length cap1]) [.tmp 2] (by rfl) ⟨by (show lkE _ _ _ = _); kernel_rfl, trivial⟩ ?_
  exact ⟨A1, cap1, fp1, rfl, F2, G2, hB⟩

set_option maxRecDepth 100000 in
/-- impl.Point] -/
theorem c_slices_Compact_impl_Point_impl_Point {w0 : World} {l0 : List (Int × Int)} {A0 : Option Addr} {cap0 : Nat} {fp0 : List Nat} {r : (List (Int × Int))} (hm : m_slices_Compact_impl_Point_impl_Point l0 = some r) (F0 : Ow 2 encII 29 w0 fp0 A0 cap0 l0) (K0 : (l0).length ≤ cap0) :
  Calls Try.prog 76 #[.slice A0 (l0).length cap0] w0 fun e w' => e = .returned (.slice A0 (r).length cap0) ∧ Ow 2 encII 29 w' fp0 A0 cap0 r ∧ Chg (fp0 ++ []) w0 w' := by
 have L0 := F0.low
 have hB : Chg (fp0 ++ []) w0 w0 := Chg.refl _ _
 have hZ := Nat.le_refl w0.heap.size
 unfold m_slices_Compact_impl_Point_impl_Point at hm
 refine enterE (N := 61) Try.func76 (by rfl) Try.ntmps76 (by simp) [(0, .slice A0 (l0).length cap0)] (by rfl) (by kernel_rfl) (fun a => ?_)
 refine cW_seq ?_
 refine cW_region ?_
 refine wS_pure 1 [(2, .slice none 0 0)] (by kernel_rfl) ?_
 refine wS_end (by rfl) ?_
 refine eX_then ?_
 refine cW_seq ?_
 refine cW_seq ?_
 refine cW_region ?_
 refine wS_pure 3 [(8, .bool (decide ((((l0).length : Int)) < 2))), (7, .int .i64 (((l0).length : Int))), (6, .slice A0 (l0).length cap0)] (by kernel_rfl) ?_
 refine wS_end (by rfl) ?_
 refine eX_then ?_
 refine cW_cond (t := decide ((((l0).length : Int)) < 2)) (by kernel_rfl) (fun hb1 => ?_) (fun hb1 => ?_)
 ·have hm := condT hb1 hm
  refine cW_seq ?_
  refine cW_region ?_
  refine wS_pure 2 [(2, .slice A0 (l0).length cap0), (9, .slice A0 (l0).length cap0)] (by kernel_rfl) ?_
  refine wS_end (by rfl) ?_
  refine eX_then ?_
  refine cW_ret ?_
  refine eX_then_ret ?_
  have hq : (some l0 : Option ((List (Int × Int)))) = some _ := hm
  replace hq := someE hq
  subst hq
  refine eX_ret (vs := [.slice A0 (l0).length cap0]) [.tmp 2] (by rfl) ⟨by (show lkE _ _ _ = _); kernel_rfl, trivial⟩ ?_
  exact ⟨rfl, F0, hB⟩
 ·have hm := condF hb1 hm
  refine cW_skip ?_
  refine eX_then ?_
  refine cW_seq ?_
  refine cW_seq ?_
  refine cW_region ?_
  refine wS_pure 1 [(3, .int .i64 (1))] (by kernel_rfl) ?_
  refine wS_end (by rfl) ?_
  refine eX_then ?_
  obtain ⟨r1, hr1, hm⟩ := bindE hm
  have hm1 := hm
  refine cW_cut (fun a' w' => Sum.inl (()) = r1 ∧ Fr 61 [(0, .slice A0 (l0).length cap0)] a' ∧ Ow 2 encII 29 w' fp0 A0 cap0 l0 ∧ Chg (fp0 ++ []) w0 w' ∧ w0.heap.size ≤ w'.heap.size) ?_ ?_
  ·refine cW_block ?_
   refine cW_loop _ (fun (s1 : Int) a' w' => ∃ x1 : Int, x1 = s1 ∧ Fr 61 [(0, .slice A0 (l0).length cap0), (3, .int .i64 (x1))] a' ∧ Ow 2 encII 29 w' fp0 A0 cap0 l0 ∧ Chg (fp0 ++ []) w0 w' ∧ w0.heap.size ≤ w'.heap.size) hr1 (fun hst => ⟨1, rfl, Fr.of hst (by kernel_rfl), F0, hB, hZ⟩) ?_
   rintro _ c1 a' w1 ⟨x1, rfl, hF1, F1, hB, hZ⟩ hx1
   refine Fr.goOn hF1 (by kernel_rfl) ?_
   have hm := hx1
   unfold m_slices_Compact_impl_Point_impl_Point_s3 at hm
   refine cW_seq ?_
   refine cW_seq ?_
   refine cW_region ?_
   refine wS_pure 4 [(13, .bool (decide (x1 < (((l0).length : Int))))), (12, .int .i64 (((l0).length : Int))), (11, .slice A0 (l0).length cap0), (10, .int .i64 (x1))] (by kernel_rfl) ?_
   refine wS_end (by rfl) ?_
   refine eX_then ?_
   refine cW_cond (t := decide (x1 < (((l0).length : Int)))) (by kernel_rfl) (fun hb2 => ?_) (fun hb2 => ?_)
   ·have hm := condT hb2 hm
    refine cW_skip ?_
    refine eX_then ?_
    refine cW_seq ?_
    refine cW_block ?_
    refine cW_seq ?_
    refine cW_drawnTail [] 9 (by kernel_rfl) (by kernel_rfl) (fun w2 hc1 => ?_)
    replace F1 := F1.chg hc1 Dj.nil
    replace hB := hB.inS hc1 inNil
    replace hZ := Nat.le_trans hZ hc1.size
    have hS := Chg.refl [] w2
    have Z1 := F1
    refine wH_take [0, 1] [1, 0] [(17, .int .i64 (x1)), (16, .slice A0 (l0).length cap0)] (by kernel_rfl) (qT (qT (qB (qT (qL (qB (qT (qT qZ)))))))) (by kernel_rfl) ?_
    obtain ⟨x2, hx2, hm⟩ := bindE hm
    refine wH_idx (i := 2) (d := 18) (T := 31) (A := A0) (n := (l0).length) (cap := cap0) (kd := .i64) (m := x1) (by kernel_rfl) (qT (qT (qB (qT (qL (qB (qT (qT qZ)))))))) (by kernel_rfl) (by kernel_rfl) sl31 ((F1.sl encII_ok).is hx2) ?_
    refine wH_loadA (i := 3) (d := 19) (T := 29) (ad := (elA A0 2 (x1) 0)) (vs := [.int .i64 (x2.1), .int .i64 (x2.2)]) (by kernel_rfl) (qT (qT (qB (qT (qL (qB (qT (qT qZ)))))))) (by kernel_rfl) (by kernel_rfl) vt29 (fun W hW i u hu => Sl.cells_at ((Z1.chg hW Dj.nil).sl encII_ok) hx2 0 hu (by rfl)) ?_
    refine wH_take [4, 5, 6] [6, 5, 4, 3, 2, 1, 0] [(22, .int .i64 (wr (x1 - 1))), (21, .int .i64 (x1)), (20, .slice A0 (l0).length cap0)] (by kernel_rfl) (qT (qT (qB (qT (qL (qB (qT (qT qZ)))))))) (by kernel_rfl) ?_
    obtain ⟨x3, hx3, hm⟩ := bindE hm
    refine wH_idx (i := 7) (d := 23) (T := 31) (A := A0) (n := (l0).length) (cap := cap0) (kd := .i64) (m := wr (x1 - 1)) (by kernel_rfl) (qT (qT (qB (qT (qL (qB (qT (qT qZ)))))))) (by kernel_rfl) (by kernel_rfl) sl31 ((F1.sl encII_ok).is hx3) ?_
    refine wH_loadA (i := 8) (d := 24) (T := 29) (ad := (elA A0 2 (wr (x1 - 1)) 0)) (vs := [.int .i64 (x3.1), .int .i64 (x3.2)]) (by kernel_rfl) (qT (qT (qB (qT (qL (qB (qT (qT qZ)))))))) (by kernel_rfl) (by kernel_rfl) vt29 (fun W hW i u hu => Sl.cells_at ((Z1.chg hW Dj.nil).sl encII_ok) hx3 0 hu (by rfl)) ?_
    refine wH_done (by kernel_rfl) ?_
    refine eX_tail ?_
    refine wS_eqS (d := 25) (T := 29) (x := x2.1) (y := x2.2) (x' := x3.1) (y' := x3.2) (by kernel_rfl) eq29 ?_
    refine wS_end (by rfl) ?_
    refine eX_then ?_
    refine cW_cond (t := x2.1 == x3.1 && x2.2 == x3.2) (by kernel_rfl) (fun hb3 => ?_) (fun hb3 => ?_)
    ·have hm := condT hb3 hm
     refine cW_seq ?_
     refine cW_region ?_
     refine wS_pure 2 [(27, .int .i64 (x1)), (26, .slice A0 (l0).length cap0)] (by kernel_rfl) ?_
     obtain ⟨y1, hy1, hm⟩ := bindE hm
     refine wS_cutA (enc := encII) (l := l0) (d := 28) (T := 31) (A := A0) (cap := cap0) (vlo := some (.int .i64 (x1))) (vhi := none) (lo := x1) (hi := ((l0).length : Int)) (n := 0) (by kernel_rfl) sl31 (Or.inl rfl) (Or.inr ⟨rfl, rfl⟩) (F1.sl encII_ok) F1.cap_le hy1 ?_
     intro A1 cap1 hA1 F2 hcap1
     obtain rfl := slci_slc hy1
     have hcz1 := F1.cap_le
     refine wS_pure 1 [(4, .slice A1 (slc l0 x1 (((l0).length : Int))).length cap1)] (by kernel_rfl) ?_
     refine wS_end (by rfl) ?_
     refine eX_then ?_
     refine cW_seq ?_
     refine cW_seq ?_
     refine cW_region ?_
     refine wS_pure 1 [(5, .int .i64 (1))] (by kernel_rfl) ?_
     refine wS_end (by rfl) ?_
     refine eX_then ?_
     obtain ⟨r2, hr2, hm⟩ := bindE hm
     have hm2 := hm
     refine cW_cut (fun a' w' => ∃ x4 : Int, ∃ l1 : List (Int × Int), (x4, l1) = r2 ∧ Fr 61 [(0, .slice A0 (l1).length cap0), (3, .int .i64 (x4))] a' ∧ Ow 2 encII 29 w' fp0 A0 cap0 l1 ∧ (l1).length = (l0).length ∧ Chg (fp0 ++ []) w0 w' ∧ w0.heap.size ≤ w'.heap.size) ?_ ?_
     ·refine cW_block ?_
      refine cW_loop _ (fun (s2 : Int × Int × (List (Int × Int))) a' w' => ∃ x5 : Int, ∃ x6 : Int, ∃ l2 : List (Int × Int), (x5, x6, l2) = s2 ∧ Fr 61 [(0, .slice A0 (l2).length cap0), (3, .int .i64 (x5)), (4, .slice A1 (slc l2 x1 (((l0).length : Int))).length cap1), (5, .int .i64 (x6))] a' ∧ Ow 2 encII 29 w' fp0 A0 cap0 l2 ∧ Sl 2 encII w' fp0 A1 (slc l2 x1 (((l0).length : Int))) ∧ (l2).length = (l0).length ∧ Chg (fp0 ++ []) w0 w' ∧ w0.heap.size ≤ w'.heap.size) hr2 (fun hst => ⟨x1, 1, l0, rfl, Fr.of hst (by kernel_rfl), F1, F2, (Eq.refl (l0).length), hB, hZ⟩) ?_
      rintro _ c2 a' w3 ⟨x5, x6, l2, rfl, hF2, F3, F4, hl1, hB, hZ⟩ hx4
      refine Fr.goOn hF2 (by kernel_rfl) ?_
      have hm := hx4
      unfold m_slices_Compact_impl_Point_impl_Point_s4 at hm
      refine cW_seq ?_
      refine cW_seq ?_
      refine cW_region ?_
      refine wS_pure 4 [(32, .bool (decide (x6 < (((slc l2 x1 (((l0).length : Int))).length : Int))))), (31, .int .i64 (((slc l2 x1 (((l0).length : Int))).length : Int))), (30, .slice A1 (slc l2 x1 (((l0).length : Int))).length cap1), (29, .int .i64 (x6))] (by kernel_rfl) ?_
      refine wS_end (by rfl) ?_
      refine eX_then ?_
      refine cW_cond (t := decide (x6 < (((slc l2 x1 (((l0).length : Int))).length : Int)))) (by kernel_rfl) (fun hb4 => ?_) (fun hb4 => ?_)
      ·have hm := condT hb4 hm
       refine cW_skip ?_
       refine eX_then ?_
       refine cW_seq ?_
       refine cW_block ?_
       obtain ⟨s3, hs1, hm⟩ := bindE hm
       refine cW_cut (fun a' w' => ∃ x7 : Int, ∃ l3 : List (Int × Int), (x7, l3) = s3 ∧ Fr 61 [(0, .slice A0 (l3).length cap0), (3, .int .i64 (x7)), (4, .slice A1 (slc l3 x1 (((l0).length : Int))).length cap1), (5, .int .i64 (x6))] a' ∧ Ow 2 encII 29 w' fp0 A0 cap0 l3 ∧ Sl 2 encII w' fp0 A1 (slc l3 x1 (((l0).length : Int))) ∧ (l3).length = (l0).length ∧ Chg (fp0 ++ []) w0 w' ∧ w0.heap.size ≤ w'.heap.size) ?_ ?_
       ·have hm := hs1
        refine cW_seq ?_
        refine cW_drawnTail [] 9 (by kernel_rfl) (by kernel_rfl) (fun w4 hc2 => ?_)
        replace F3 := F3.chg hc2 Dj.nil
        replace F4 := F4.chg hc2 Dj.nil
        replace hB := hB.inS hc2 inNil
        replace hZ := Nat.le_trans hZ hc2.size
        have hS := Chg.refl [] w4
        have Z2 := F3
        have Z3 := F4
        refine wH_take [0, 1] [1, 0] [(36, .int .i64 (x6)), (35, .slice A1 (slc l2 x1 (((l0).length : Int))).length cap1)] (by kernel_rfl) (qT (qT (qT (qB (qT (qL (qB (qT (qT (qB (qT (qL (qB (qT (qT qZ))))))))))))))) (by kernel_rfl) ?_
        obtain ⟨x8, hx5, hm⟩ := bindE hm
        refine wH_idx (i := 2) (d := 37) (T := 31) (A := A1) (n := (slc l2 x1 (((l0).length : Int))).length) (cap := cap1) (kd := .i64) (m := x6) (by kernel_rfl) (qT (qT (qT (qB (qT (qL (qB (qT (qT (qB (qT (qL (qB (qT (qT qZ))))))))))))))) (by kernel_rfl) (by kernel_rfl) sl31 (F4.is hx5) ?_
        refine wH_loadA (i := 3) (d := 38) (T := 29) (ad := (elA A1 2 (x6) 0)) (vs := [.int .i64 (x8.1), .int .i64 (x8.2)]) (by kernel_rfl) (qT (qT (qT (qB (qT (qL (qB (qT (qT (qB (qT (qL (qB (qT (qT qZ))))))))))))))) (by kernel_rfl) (by kernel_rfl) vt29 (fun W hW i u hu => Sl.cells_at (Z3.chg hW Dj.nil) hx5 0 hu (by rfl)) ?_
        refine wH_take [4, 5, 6] [6, 5, 4, 3, 2, 1, 0] [(41, .int .i64 (wr (x6 - 1))), (40, .int .i64 (x6)), (39, .slice A1 (slc l2 x1 (((l0).length : Int))).length cap1)] (by kernel_rfl) (qT (qT (qT (qB (qT (qL (qB (qT (qT (qB (qT (qL (qB (qT (qT qZ))))))))))))))) (by kernel_rfl) ?_
        obtain ⟨x9, hx6, hm⟩ := bindE hm
        refine wH_idx (i := 7) (d := 42) (T := 31) (A := A1) (n := (slc l2 x1 (((l0).length : Int))).length) (cap := cap1) (kd := .i64) (m := wr (x6 - 1)) (by kernel_rfl) (qT (qT (qT (qB (qT (qL (qB (qT (qT (qB (qT (qL (qB (qT (qT qZ))))))))))))))) (by kernel_rfl) (by kernel_rfl) sl31 (F4.is hx6) ?_
        refine wH_loadA (i := 8) (d := 43) (T := 29) (ad := (elA A1 2 (wr (x6 - 1)) 0)) (vs := [.int .i64 (x9.1), .int .i64 (x9.2)]) (by kernel_rfl) (qT (qT (qT (qB (qT (qL (qB (qT (qT (qB (qT (qL (qB (qT (qT qZ))))))))))))))) (by kernel_rfl) (by kernel_rfl) vt29 (fun W hW i u hu => Sl.cells_at (Z3.chg hW Dj.nil) hx6 0 hu (by rfl)) ?_
        refine wH_done (by kernel_rfl) ?_
        refine eX_tail ?_
        refine wS_neS (d := 44) (T := 29) (x := x8.1) (y := x8.2) (x' := x9.1) (y' := x9.2) (by kernel_rfl) eq29 ?_
        refine wS_end (by rfl) ?_
        refine eX_then ?_
        refine cW_cond (t := !(x8.1 == x9.1 && x8.2 == x9.2)) (by kernel_rfl) (fun hb5 => ?_) (fun hb5 => ?_)
        ·have hm := condT hb5 hm
         refine cW_seq ?_
         refine cW_region ?_
         refine wS_pure 4 [(48, .int .i64 (x6)), (47, .slice A1 (slc l2 x1 (((l0).length : Int))).length cap1), (46, .int .i64 (x5)), (45, .slice A0 (l2).length cap0)] (by kernel_rfl) ?_
         obtain ⟨x10, hx7, hm⟩ := bindE hm
         refine wS_idx (d := 49) (T := 31) (A := A1) (n := (slc l2 x1 (((l0).length : Int))).length) (cap := cap1) (kd := .i64) (m := x6) (by kernel_rfl) sl31 (F4.is hx7) ?_
         refine wS_loadA (d := 50) (T := 29) (ad := (elA A1 2 (x6) 0)) (vs := [.int .i64 (x10.1), .int .i64 (x10.2)]) (by kernel_rfl) vt29 (fun i u hu => Sl.cells_at F4 hx7 0 hu (by rfl)) ?_
         obtain ⟨x11, hx8, hm⟩ := bindE hm
         refine wS_idx (d := 51) (T := 31) (A := A0) (n := (l2).length) (cap := cap0) (kd := .i64) (m := x5) (by kernel_rfl) sl31 ((F3.sl encII_ok).is hx8) ?_
         refine wS_storeEl (x := x11) ((x10.1, x10.2)) (T := 29) (U := 29) (cap := cap0) (j := 0) (A := A0) (v := .agg #[.int .i64 (x10.1), .int .i64 (x10.2)]) (vs := [.int .i64 (x10.1), .int .i64 (x10.2)]) (m := x5) (by kernel_rfl) (by rfl) sz29 (by rfl) encII_ok F3 hx8 (by simp only [List.length_cons, List.length_nil]; omega) (by rfl) ?_
         intro w5 F5 hc3
         replace hB := hB.inS hc3 (inMem (fun x hx => (List.mem_append_left _ hx)))
         replace hZ := Nat.le_trans hZ hc3.size
         clear F3
         have hl2 := (show (l2.set (Int.toNat x5) ((x10.1, x10.2))).length = (l2).length from List.length_set ..).trans hl1
         rewrite [show (l2).length = (l2.set (Int.toNat x5) ((x10.1, x10.2))).length from (List.length_set ..).symm]
         have F6 := Sl.recut (F5.sl encII_ok) hA1 hy1 hcz1 (hl2.trans (Eq.refl (l0).length).symm)
         first | rewrite [show (slc l2 x1 (((l0).length : Int))).length = (slc (l2.set (Int.toNat x5) ((x10.1, x10.2))) x1 (((l0).length : Int))).length from (slc_length (show (l2.set (Int.toNat x5) ((x10.1, x10.2))).length = (l2).length from List.length_set ..)).symm] | skip
         refine wS_end (by rfl) ?_
         refine eX_then ?_
         refine cW_prune [(0, .slice A0 (l2.set (Int.toNat x5) ((x10.1, x10.2))).length cap0), (3, .int .i64 (x5)), (4, .slice A1 (slc (l2.set (Int.toNat x5) ((x10.1, x10.2))) x1 (((l0).length : Int))).length cap1), (5, .int .i64 (x6))] (by kernel_rfl) (by kernel_rfl) (fun a1 => ?_)
         refine cW_region ?_
         refine wS_pure 3 [(3, .int .i64 (wr (x5 + 1))), (53, .int .i64 (wr (x5 + 1))), (52, .int .i64 (x5))] (by kernel_rfl) ?_
         refine wS_end (by rfl) ?_
         have hq : (some ((wr (x5 + 1), l2.set (Int.toNat x5) ((x10.1, x10.2)))) : Option (Int × (List (Int × Int)))) = some _ := hm
         replace hq := someE hq
         subst hq
         exact eX_J (fun hst => ⟨wr (x5 + 1), l2.set (Int.toNat x5) ((x10.1, x10.2)), rfl, Fr.of hst (by kernel_rfl), F5, F6, hl2, hB, hZ⟩)
        ·have hm := condF hb5 hm
         refine cW_skip ?_
         have hq : (some ((x5, l2)) : Option (Int × (List (Int × Int)))) = some _ := hm
         replace hq := someE hq
         subst hq
         exact eX_J (fun hst => ⟨x5, l2, rfl, Fr.of hst (by kernel_rfl), F3, F4, hl1, hB, hZ⟩)
       ·rintro a' w6 ⟨x7, l3, hJ, hF3, F7, F8, hl3, hB, hZ⟩
        subst hJ
        refine Fr.goX hF3 (by kernel_rfl) ?_
        refine eX_block ?_
        refine eX_then ?_
        refine cW_region ?_
        refine wS_pure 3 [(5, .int .i64 (wr (x6 + 1))), (34, .int .i64 (wr (x6 + 1))), (33, .int .i64 (x6))] (by kernel_rfl) ?_
        refine wS_end (by rfl) ?_
        have hq : (some (Ctl.next ((x7, wr (x6 + 1), l3))) : Option (Ctl (Int × Int × (List (Int × Int))) (Int × (List (Int × Int))))) = some _ := hm
        replace hq := someE hq
        subst hq
        exact eX_next hx4 (fun hst => ⟨x7, wr (x6 + 1), l3, rfl, Fr.of hst (by kernel_rfl), F7, F8, hl3, hB, hZ⟩)
      ·have hm := condF hb4 hm
       refine cW_exit ?_
       refine eX_then_exit ?_
       have hq : (some (Ctl.out ((x5, l2))) : Option (Ctl (Int × Int × (List (Int × Int))) (Int × (List (Int × Int))))) = some _ := hm
       replace hq := someE hq
       subst hq
       refine eX_outX hx4 (fun hr3 => ?_)
       replace hr3 := hr3.symm
       subst hr3
       refine eX_block_hit ?_
       exact eX_J (fun hst => ⟨x5, l2, rfl, Fr.of hst (by kernel_rfl), F3, hl1, hB, hZ⟩)
     ·rintro a' w7 ⟨x4, l1, hJ, hF4, F9, hl4, hB, hZ⟩
      subst hJ
      refine Fr.goX hF4 (by kernel_rfl) ?_
      refine eX_then ?_
      refine cW_seq ?_
      refine cW_region ?_
      refine wS_pure 2 [(55, .int .i64 (x4)), (54, .slice A0 (l1).length cap0)] (by kernel_rfl) ?_
      obtain ⟨y2, hy2, hm⟩ := bindE hm
      refine wS_cutA (enc := encII) (l := l1) (d := 56) (T := 31) (A := A0) (cap := cap0) (vlo := some (.int .i64 (x4))) (vhi := none) (lo := x4) (hi := ((l1).length : Int)) (n := 0) (by kernel_rfl) sl31 (Or.inl rfl) (Or.inr ⟨rfl, rfl⟩) (F9.sl encII_ok) F9.cap_le hy2 ?_
      intro A2 cap2 hA2 F10 hcap2
      obtain rfl := slci_slc hy2
      have hcz2 := F9.cap_le
      refine wS_clear (A' := A2) (c' := cap2) (x0 := ((0, 0) : Int × Int)) (l := l1) (l0 := l1) (T := 31) (A := A0) (cap := cap0) (lo := x4) (by kernel_rfl) el31 encII_ok (by rfl) (by kernel_rfl) F9 hA2 hy2 rfl ?_
      intro w8 F11 hlc1 hc4
      replace hB := hB.inS hc4 (inMem (fun x hx => (List.mem_append_left _ hx)))
      replace hZ := Nat.le_trans hZ hc4.size
      clear F9
      have hl5 := hlc1.trans hl4
      rewrite [show (l1).length = (clr ((0, 0) : Int × Int) l1 x4).length from hlc1.symm]
      refine wS_end (by rfl) ?_
      refine eX_then ?_
      refine cW_seq ?_
      refine cW_region ?_
      refine wS_pure 2 [(58, .int .i64 (x4)), (57, .slice A0 (clr ((0, 0) : Int × Int) l1 x4).length cap0)] (by kernel_rfl) ?_
      obtain ⟨y3, hy3, hm⟩ := bindE hm
      refine wS_prefix (k := 2) (enc := encII) (U := 29) (l := clr ((0, 0) : Int × Int) l1 x4) (d := 59) (T := 31) (A := A0) (cap := cap0) (hi := x4) (by kernel_rfl) sl31 encII_ok F11 F11.cap_le hy3 ?_
      intro hpe F12
      subst hpe
      refine wS_pure 1 [(2, .slice A0 ((clr ((0, 0) : Int × Int) l1 x4).take (Int.toNat x4)).length cap0)] (by kernel_rfl) ?_
      refine wS_end (by rfl) ?_
      refine eX_then ?_
      refine cW_ret ?_
      refine eX_block_ret ?_
      refine eX_then_ret ?_
      have hq : (some (Ctl.out (Sum.inr ((clr ((0, 0) : Int × Int) l1 x4).take (Int.toNat x4)))) : Option (Ctl (Int) (Sum (Unit) ((List (Int × Int)))))) = some _ := hm
      replace hq := someE hq
      subst hq
      refine eX_outR hx1 (fun hr => ?_)
      subst hr
      refine eX_block_ret ?_
      refine eX_then_ret ?_
      refine eX_then_ret ?_
      have hq : (some ((clr ((0, 0) : Int × Int) l1 x4).take (Int.toNat x4)) : Option ((List (Int × Int)))) = some _ := hm1
      replace hq := someE hq
      subst hq
      refine eX_ret (vs := [.slice A0 ((clr ((0, 0) : Int × Int) l1 x4).take (Int.toNat x4)).length cap0]) [.tmp 2] (by rfl) ⟨by (show lkE _ _ _ = _); kernel_rfl, trivial⟩ ?_
      exact ⟨rfl, F12, hB⟩
    ·have hm := condF hb3 hm
     refine cW_skip ?_
     refine eX_block ?_
     refine eX_then ?_
     refine cW_region ?_
     refine wS_pure 3 [(3, .int .i64 (wr (x1 + 1))), (15, .int .i64 (wr (x1 + 1))), (14, .int .i64 (x1))] (by kernel_rfl) ?_
     refine wS_end (by rfl) ?_
     have hq : (some (Ctl.next (wr (x1 + 1))) : Option (Ctl (Int) (Sum (Unit) ((List (Int × Int)))))) = some _ := hm
     replace hq := someE hq
     subst hq
     exact eX_next hx1 (fun hst => ⟨wr (x1 + 1), rfl, Fr.of hst (by kernel_rfl), F1, hB, hZ⟩)
   ·have hm := condF hb2 hm
    refine cW_exit ?_
    refine eX_then_exit ?_
    have hq : (some (Ctl.out (Sum.inl (()))) : Option (Ctl (Int) (Sum (Unit) ((List (Int × Int)))))) = some _ := hm
    replace hq := someE hq
    subst hq
    refine eX_outX hx1 (fun hr4 => ?_)
    replace hr4 := hr4.symm
    subst hr4
    refine eX_block_hit ?_
    exact eX_J (fun hst => ⟨rfl, Fr.of hst (by kernel_rfl), F1, hB, hZ⟩)
  ·rintro a' w9 ⟨hJ, hF5, F13, hB, hZ⟩
   subst hJ
   refine Fr.goX hF5 (by kernel_rfl) ?_
   refine eX_then ?_
   refine cW_seq ?_
   refine cW_region ?_
   refine wS_pure 2 [(2, .slice A0 (l0).length cap0), (60, .slice A0 (l0).length cap0)] (by kernel_rfl) ?_
   refine wS_end (by rfl) ?_
   refine eX_then ?_
   refine cW_ret ?_
   have hq : (some l0 : Option ((List (Int × Int)))) = some _ := hm
   replace hq := someE hq
   subst hq
   refine eX_ret (vs := [.slice A0 (l0).length cap0]) [.tmp 2] (by rfl) ⟨by (show lkE _ _ _ = _); kernel_rfl, trivial⟩ ?_
   exact ⟨rfl, F13, hB⟩

set_option maxRecDepth 100000 in
/-- impl.sorted -/
theorem c_impl_sorted {w0 : World} {l0 : List (Int × Int)} {A0 : Option Addr} {cap0 : Nat} {fp0 : List Nat} {r : (List (Int × Int))} (hm : m_impl_sorted l0 = some r) (F0 : Sl 2 encII w0 fp0 A0 l0) :
  Calls Try.prog 68 #[.slice A0 (l0).length cap0] w0 fun e w' => ∃ A100 cap100 fp100, e = .returned (.slice A100 (r).length cap100) ∧ Ow 2 encII 29 w' fp100 A100 cap100 r ∧ (∀ x ∈ fp100, w0.heap.size ≤ x) ∧ Chg [] w0 w' := by
 have L0 := F0.low
 have hB : Chg [] w0 w0 := Chg.refl _ _
 have hZ := Nat.le_refl w0.heap.size
 unfold m_impl_sorted at hm
 refine enterE (N := 10) Try.func68 (by rfl) Try.ntmps68 (by simp) [(0, .slice A0 (l0).length cap0)] (by rfl) (by kernel_rfl) (fun a => ?_)
 refine cW_seq ?_
 refine cW_region ?_
 refine wS_pure 1 [(2, .slice none 0 0)] (by kernel_rfl) ?_
 refine wS_end (by rfl) ?_
 refine eX_then ?_
 refine cW_seq ?_
 refine cW_region ?_
 refine wS_pure 1 [(4, .slice A0 (l0).length cap0)] (by kernel_rfl) ?_
 obtain ⟨y1, hy1, hm⟩ := bindE hm
 refine wS_calls (d := 5) (f := 73) (vs := [.slice A0 (l0).length cap0]) (by kernel_rfl) ent73 (c_slices_Clone_impl_Point_impl_Point hy1 F0) ?_
 rintro _ w1 ⟨A1, cap1, fp1, rfl, F1, G1, hc1⟩
 replace F0 := F0.chg hc1 Dj.nil
 replace hB := hB.inS hc1 inNil
 replace G1 := low_le hZ G1
 replace hZ := Nat.le_trans hZ hc1.size
 refine ⟨.slice A1 (y1).length cap1, rfl, ?_⟩
 refine wS_pure 1 [(3, .slice A1 (y1).length cap1)] (by kernel_rfl) ?_
 refine wS_end (by rfl) ?_
 refine eX_then ?_
 refine cW_seq ?_
 refine cW_region ?_
 refine wS_pure 1 [(6, .slice A1 (y1).length cap1)] (by kernel_rfl) ?_
 obtain ⟨y2, hy2, hm⟩ := bindE hm
 refine wS_calls (d := 7) (f := 74) (vs := [.slice A1 (y1).length cap1, .func (.func 75) #[] #[]]) (by kernel_rfl) ent74 (c_slices_SortFunc_impl_Point_impl_Point_impl_pointOrder hy2 F1) ?_
 rintro _ w2 ⟨rfl, F2, hl1, hc2⟩
 replace F0 := F0.chg hc2 (Dj.app (Dj.of L0 G1) Dj.nil)
 replace hB := hB.inS hc2 (inApp (inLow G1) inNil)
 replace hZ := Nat.le_trans hZ hc2.size
 clear F1
 refine ⟨.tuple #[], rfl, ?_⟩
 rewrite [(show (y1).length = (y2).length from hl1.symm)]
 refine wS_end (by rfl) ?_
 refine eX_then ?_
 refine cW_seq ?_
 refine cW_region ?_
 refine wS_pure 1 [(8, .slice A1 (y2).length cap1)] (by kernel_rfl) ?_
 obtain ⟨y3, hy3, hm⟩ := bindE hm
 refine wS_calls (d := 9) (f := 76) (vs := [.slice A1 (y2).length cap1]) (by kernel_rfl) ent76 (c_slices_Compact_impl_Point_impl_Point hy3 F2 F2.cap_le) ?_
 rintro _ w3 ⟨rfl, F3, hc3⟩
 replace F0 := F0.chg hc3 (Dj.app (Dj.of L0 G1) Dj.nil)
 replace hB := hB.inS hc3 (inApp (inLow G1) inNil)
 clear F2
 replace hZ := Nat.le_trans hZ hc3.size
 refine ⟨.slice A1 (y3).length cap1, rfl, ?_⟩
 refine wS_pure 1 [(2, .slice A1 (y3).length cap1)] (by kernel_rfl) ?_
 refine wS_end (by rfl) ?_
 refine eX_then ?_
 refine cW_ret ?_
 have hq : (some y3 : Option ((List (Int × Int)))) = some _ := hm
 replace hq := someE hq
 subst hq
 refine eX_ret (vs := [.slice A1 (y3).length cap1]) [.tmp 2] (by rfl) ⟨by (show lkE _ _ _ = _); kernel_rfl, trivial⟩ ?_
 exact ⟨A1, cap1, fp1, rfl, F3, G1, hB⟩

set_option maxRecDepth 100000 in
/-- impl.pointsOf -/
theorem c_impl_pointsOf {w0 : World} {l0 : List ((Int × Int) × Bool)} {b0 : Nat} {r : (List (Int × Int))} (hm : m_impl_pointsOf l0 = some r) (F0 : Mp okII ekII vB w0 b0 l0) :
  Calls Try.prog 49 #[.map (some b0)] w0 fun e w' => ∃ A100 cap100 fp100, e = .returned (.slice A100 (r).length cap100) ∧ Ow 2 encII 29 w' fp100 A100 cap100 r ∧ (∀ x ∈ fp100, w0.heap.size ≤ x) ∧ Chg [] w0 w' := by
 have L0 := F0.low
 have hB : Chg [] w0 w0 := Chg.refl _ _
 have hZ := Nat.le_refl w0.heap.size
 unfold m_impl_pointsOf at hm
 refine enterE (N := 18) Try.func49 (by rfl) Try.ntmps49 (by simp) [(0, .map (some b0))] (by rfl) (by kernel_rfl) (fun a => ?_)
 refine cW_seq ?_
 refine cW_region ?_
 refine wS_pure 1 [(2, .slice none 0 0)] (by kernel_rfl) ?_
 refine wS_end (by rfl) ?_
 refine eX_then ?_
 refine cW_seq ?_
 refine cW_region ?_
 refine wS_bs0 (α := Int × Int) (enc := encII) (d := 5) (t := 31) (T := 29) (by kernel_rfl) el31 ?_
 intro b1 w1 G1 F1 hc1
 replace F0 := F0.chg hc1 Dj.nil
 replace hB := hB.inS hc1 inNil
 replace G1 := Nat.le_trans hZ G1
 replace G1 := low1 G1
 replace hZ := Nat.le_trans hZ hc1.size
 refine wS_pure 1 [(3, .slice (some ⟨b1, 0, none⟩) (([] : List (Int × Int))).length 0)] (by kernel_rfl) ?_
 refine wS_end (by rfl) ?_
 refine eX_then ?_
 refine cW_seq ?_
 refine cW_seq ?_
 refine cW_region ?_
 refine wS_pure 1 [(6, .map (some b0))] (by kernel_rfl) ?_
 refine wS_range (d := 7) (T := 90) (by kernel_rfl) mp90 F0 ?_
 intro b2 w2 G2 F2 hc2
 have D1 : Dj [b1] [b2] := Dj.of F1.low (low1 G2)
 replace F0 := F0.chg hc2 Dj.nil
 replace F1 := F1.chg hc2 Dj.nil
 replace hB := hB.inS hc2 inNil
 replace G2 := Nat.le_trans hZ G2
 replace G2 := low1 G2
 replace hZ := Nat.le_trans hZ hc2.size
 refine wS_end (by rfl) ?_
 refine eX_then ?_
 have hA1 := allO_some hm
 refine cW_cut (fun a' w' => ∃ lo1 : List ((Int × Int) × Bool), ∃ l1 : List (Int × Int), ∃ A1 : Option Addr, ∃ cap1 : Nat, ∃ fp1 : List Nat, lo1.Perm l0 ∧ foldR (m_impl_pointsOf_s1) (([] : List (Int × Int))) lo1 = some l1 ∧ Fr 18 [(3, .slice A1 (l1).length cap1)] a' ∧ Ow 2 encII 29 w' fp1 A1 cap1 l1 ∧ (∀ x ∈ fp1, w0.heap.size ≤ x) ∧ Chg [] w0 w' ∧ w0.heap.size ≤ w'.heap.size) ?_ ?_
 ·refine cW_block ?_
  refine cW_loop cdn (fun (n1 : Nat) a' w' => ∃ ld1 : List ((Int × Int) × Bool), ∃ lr1 : List ((Int × Int) × Bool), ∃ l3 : List (Int × Int), ∃ A3 : Option Addr, ∃ cap3 : Nat, ∃ fp2 : List Nat, lr1.length = n1 ∧ (ld1 ++ lr1).Perm l0 ∧ foldR (m_impl_pointsOf_s1) (([] : List (Int × Int))) ld1 = some l3 ∧ Fr 18 [(3, .slice A3 (l3).length cap3), (7, .pointer (some ⟨b2, 0, none⟩))] a' ∧ Mp okII ekII vB w' b0 l0 ∧ RgE okII ekII vB w' b0 b2 l0 lr1 ∧ Ow 2 encII 29 w' fp2 A3 cap3 l3 ∧ (∀ x ∈ fp2, w0.heap.size ≤ x) ∧ Dj [b2] fp2 ∧ Chg [] w0 w' ∧ w0.heap.size ≤ w'.heap.size) (cdn_run _) (fun hst => ⟨[], l0, ([] : List (Int × Int)), (some ⟨b1, 0, none⟩), 0, [b1], rfl, (List.Perm.refl _), rfl, Fr.of hst (by kernel_rfl), F0, F2, F1, G1, (D1).symm, hB, hZ⟩) ?_
  rintro n1 c_ a' w3 ⟨ld1, lr1, l3, A3, cap3, fp2, hn1, hP1, hF1, hF2, F3, F4, F5, G3, D2, hB, hZ⟩ hx1
  refine Fr.goOn hF2 (by kernel_rfl) ?_
  refine cW_seq ?_
  refine cW_region ?_
  refine wS_next (d := 8) (by kernel_rfl) F4 (fun hnil1 => ?_) (fun pa1 p1 pd1 w4 hsp1 F6 hc3 => ?_)
  ·skip
   refine wS_pure 1 [(9, .bool (false))] (by kernel_rfl) ?_
   refine wS_end (by rfl) ?_
   refine eX_then ?_
   refine cW_seq ?_
   refine cW_cond_f (by kernel_rfl) ?_
   refine cW_exit ?_
   refine eX_then_exit ?_
   refine eX_outX (cdn_0 hn1 hnil1) (fun _ => ?_)
   refine eX_block_hit ?_
   exact eX_J (fun hst => ⟨ld1, l3, A3, cap3, fp2, (perm_end hP1 hnil1), hF1, Fr.of hst (by kernel_rfl), F5, G3, hB, hZ⟩)
  ·skip
   obtain ⟨s1, hs1⟩ := foldR_step hF1 (hA1 _ (perm_pick hP1 hsp1))
   have hm := hs1
   unfold m_impl_pointsOf_s1 at hm
   replace F3 := F3.chg hc3 (Dj.of L0 G2)
   replace F5 := F5.chg hc3 (D2).symm
   replace hB := hB.inS hc3 (inLow G2)
   replace hZ := Nat.le_trans hZ hc3.size
   clear F4
   refine wS_pure 1 [(9, .bool (true))] (by kernel_rfl) ?_
   refine wS_end (by rfl) ?_
   refine eX_then ?_
   refine cW_seq ?_
   refine cW_cond_t (by kernel_rfl) ?_
   refine cW_skip ?_
   refine eX_then ?_
   refine cW_block ?_
   refine cW_seq ?_
   refine cW_region ?_
   refine wS_ntry (d := 10) (by kernel_rfl) F6 ?_
   refine wS_pure 1 [(11, .agg #[.int .i64 (p1.1.1), .int .i64 (p1.1.2)])] (by kernel_rfl) ?_
   refine wS_alloc (d := 4) (T := 29) (z := .agg #[.int .i64 (0), .int .i64 (0)]) (by kernel_rfl) (by kernel_rfl) ?_
   intro b3 w5 G4 F7 hc4
   replace F7 : Cl w5 b3 29 [.int .i64 (0), .int .i64 (0)] := F7
   have D3 : Dj [b2] [b3] := Dj.of F6.low (low1 G4)
   have D4 : Dj fp2 [b3] := Dj.of F5.low (low1 G4)
   replace F3 := F3.chg hc4 Dj.nil
   replace F6 := F6.chg hc4 Dj.nil Dj.nil
   replace F5 := F5.chg hc4 Dj.nil
   replace hB := hB.inS hc4 inNil
   replace G4 := Nat.le_trans hZ G4
   replace hZ := Nat.le_trans hZ hc4.size
   refine wS_store (T := 29) (g := b3) (o := 0) (ad := ⟨b3, 0, none⟩) (v := .agg #[.int .i64 (p1.1.1), .int .i64 (p1.1.2)]) (vs := [.int .i64 (p1.1.1), .int .i64 (p1.1.2)]) (by kernel_rfl) (by rfl) sz29 (by rfl) (by rfl) F7 (by simp only [List.length_cons, List.length_nil]; omega) ?_
   intro w6 F8 hc5
   replace F3 := F3.chg hc5 (Dj.of L0 (low1 G4))
   replace F6 := F6.chg hc5 (Dj.of L0 (low1 G4)) D3
   replace F5 := F5.chg hc5 D4
   replace hB := hB.inS hc5 (inLow (low1 G4))
   replace hZ := Nat.le_trans hZ hc5.size
   replace F8 : Cl w6 b3 29 [.int .i64 (p1.1.1), .int .i64 (p1.1.2)] := F8
   clear F7
   refine wS_end (by rfl) ?_
   refine eX_then ?_
   refine cW_region ?_
   refine wS_pure 1 [(12, .slice A3 (l3).length cap3)] (by kernel_rfl) ?_
   refine wS_loadA (d := 13) (T := 29) (ad := ⟨b3, 0, none⟩) (vs := [.int .i64 (p1.1.1), .int .i64 (p1.1.2)]) (by kernel_rfl) vt29 (fun i u hu => box_cells F8 0 hu (by rfl)) ?_
   refine wS_bs (enc := encII) ([(p1.1.1, p1.1.2)] : List (Int × Int)) [.int .i64 (p1.1.1), .int .i64 (p1.1.2)] (d := 14) (t := 31) (T := 29) (n := 1) (ps := [(0, .agg #[.int .i64 (p1.1.1), .int .i64 (p1.1.2)])]) (by kernel_rfl) el31 encII_ok (by rfl) (by omega) (by omega) (by kernel_rfl) (by rfl) ?_
   intro b4 w7 G5 F9 hc6
   have D5 : Dj [b2] [b4] := Dj.of F6.low (low1 G5)
   have D6 : Dj fp2 [b4] := Dj.of F5.low (low1 G5)
   have D7 : Dj [b3] [b4] := Dj.of (lt1 F8.lt) (low1 G5)
   replace F3 := F3.chg hc6 Dj.nil
   replace F6 := F6.chg hc6 Dj.nil Dj.nil
   replace F5 := F5.chg hc6 Dj.nil
   replace F8 := F8.chg hc6 notNil
   replace hB := hB.inS hc6 inNil
   replace G5 := Nat.le_trans hZ G5
   replace G5 := low1 G5
   replace hZ := Nat.le_trans hZ hc6.size
   obtain ⟨_, hk1, hm⟩ := bindE hm
   replace hk1 := apE hk1
   refine wS_append (enc := encII) (l := (l3 : List (Int × Int))) (l2 := (([(p1.1.1, p1.1.2)] : List (Int × Int)) : List (Int × Int))) (d := 15) (t := 31) (T := 29) (A := A3) (A2 := (some ⟨b4, 0, none⟩)) (cap := cap3) (cap2 := 1) (by kernel_rfl) el31 encII_ok F5 (F9.sl encII_ok) (by rfl) hk1 ?_
   intro w8 fp3 A4 cap4 F10 hc7 hp1
   have G6 := low_ap G3 hZ hp1
   have D8 : Dj [b2] fp3 := Dj.ap D2 F6.low hp1
   have D9 : Dj [b3] fp3 := Dj.ap (D4).symm (lt1 F8.lt) hp1
   have D10 : Dj [b4] fp3 := Dj.ap (D6).symm F9.low hp1
   replace F3 := F3.chg hc7 (Dj.of L0 G3)
   replace F6 := F6.chg hc7 (Dj.of L0 G3) D2
   replace F8 := F8.chg hc7 (dj1 (D4).symm)
   replace F9 := F9.chg hc7 (D6).symm
   replace hB := hB.inS hc7 (inLow G3)
   replace hZ := Nat.le_trans hZ hc7.size
   refine wS_pure 1 [(3, .slice A4 (l3 ++ (([(p1.1.1, p1.1.2)] : List (Int × Int)))).length cap4)] (by kernel_rfl) ?_
   refine wS_end (by rfl) ?_
   refine eX_block ?_
   have hq := ctlE (show (some (Ctl.next (l3 ++ (([(p1.1.1, p1.1.2)] : List (Int × Int))))) : Option (Ctl ((List (Int × Int))) (Unit))) = some (Ctl.next _) from hm)
   subst hq
   exact eX_next (cdn_at hn1 hsp1) (fun hst => ⟨ld1 ++ [p1], pa1 ++ pd1, l3 ++ (([(p1.1.1, p1.1.2)] : List (Int × Int))), A4, cap4, fp3, rfl, (perm_next hP1 hsp1), (foldR_snoc hF1 hs1), Fr.of hst (by kernel_rfl), F3, ⟨_, F6⟩, F10, G6, D8, hB, hZ⟩)
 ·rintro a' w9 ⟨lo1, l1, A1, cap1, fp1, hP2, hF3, hF4, F11, G7, hB, hZ⟩
  have hm := hA1 _ hP2
  rewrite [hF3] at hm
  refine Fr.goX hF4 (by kernel_rfl) ?_
  have hm := bindSome hm
  refine eX_then ?_
  refine cW_seq ?_
  refine cW_region ?_
  refine wS_pure 1 [(16, .slice A1 (l1).length cap1)] (by kernel_rfl) ?_
  obtain ⟨y1, hy1, hm⟩ := bindE hm
  refine wS_calls (d := 17) (f := 68) (vs := [.slice A1 (l1).length cap1]) (by kernel_rfl) ent68 (c_impl_sorted hy1 (F11.sl encII_ok)) ?_
  rintro _ w10 ⟨A5, cap5, fp4, rfl, F12, G8, hc8⟩
  have D11 : Dj fp1 fp4 := Dj.of F11.low G8
  replace F11 := F11.chg hc8 Dj.nil
  replace hB := hB.inS hc8 inNil
  replace G8 := low_le hZ G8
  replace hZ := Nat.le_trans hZ hc8.size
  refine ⟨.slice A5 (y1).length cap5, rfl, ?_⟩
  refine wS_pure 1 [(2, .slice A5 (y1).length cap5)] (by kernel_rfl) ?_
  refine wS_end (by rfl) ?_
  refine eX_then ?_
  refine cW_ret ?_
  have hq : (some y1 : Option ((List (Int × Int)))) = some _ := hm
  replace hq := someE hq
  subst hq
  refine eX_ret (vs := [.slice A5 (y1).length cap5]) [.tmp 2] (by rfl) ⟨by (show lkE _ _ _ = _); kernel_rfl, trivial⟩ ?_
  exact ⟨A5, cap5, fp4, rfl, F12, G8, hB⟩

set_option maxRecDepth 100000 in
/-- impl.flow).beside -/
theorem c_impl_flow_beside_bimplflow_bimplMaze {w0 : World} {l0_0_0 : List (List (Int))} {A0_0_0 : Option Addr} {cap0_0_0 : Nat} {fp0_0_0 : List Nat} {b0_0 : Nat} {q0_1 : Int} {q0_2 : Int} {q0_3 : Int} {q0_4 : Int} {l0_5 : List ((Int × Int × Bool × Int × Int × Bool) × Bool)} {b0_5 : Nat} {b0 : Nat} {p1_0 : Int} {p1_1 : Int} {p1_2 : Bool} {r : (List (Int × Int × Bool))} (hm : m_impl_flow_beside_bimplflow_bimplMaze l0_0_0 q0_1 q0_2 q0_3 q0_4 l0_5 p1_0 p1_1 p1_2 = some r) (F0_0_0 : SlR 1 encI w0 fp0_0_0 A0_0_0 l0_0_0) (F0_0 : Cl w0 b0_0 26 [.slice A0_0_0 (l0_0_0).length cap0_0_0]) (F0_5 : Mp okIIBIIB ekIIBIIB vB w0 b0_5 l0_5) (F0 : Cl w0 b0 86 [.pointer (some ⟨b0_0, 0, none⟩), .int .i64 (q0_1), .int .i64 (q0_2), .int .i64 (q0_3), .int .i64 (q0_4), .map (some b0_5)]) :
  Calls Try.prog 66 #[.pointer (some ⟨b0, 0, none⟩), .agg #[.int .i64 (p1_0), .int .i64 (p1_1), .bool (p1_2)]] w0 fun e w' => ∃ A100 cap100 fp100, e = .returned (.slice A100 (r).length cap100) ∧ Ow 3 encIIB 92 w' fp100 A100 cap100 r ∧ (∀ x ∈ fp100, w0.heap.size ≤ x) ∧ Chg [] w0 w' := by
 have L0_0_0 := F0_0_0.low
 have L0_0 := lt1 F0_0.lt
 have L0_5 := F0_5.low
 have L0 := lt1 F0.lt
 have hB : Chg [] w0 w0 := Chg.refl _ _
 have hZ := Nat.le_refl w0.heap.size
 unfold m_impl_flow_beside_bimplflow_bimplMaze at hm
 refine enterE (N := 38) Try.func66 (by rfl) Try.ntmps66 (by simp) [(0, .pointer (some ⟨b0, 0, none⟩)), (1, .agg #[.int .i64 (p1_0), .int .i64 (p1_1), .bool (p1_2)])] (by rfl) (by kernel_rfl) (fun a => ?_)
 refine cW_seq ?_
 refine cW_region ?_
 refine wS_box (d := 3) (T := 92) (x := .agg #[.int .i64 (p1_0), .int .i64 (p1_1), .bool (p1_2)]) (by kernel_rfl) ?_
 intro b1 w1 G1 F1 hc1
 replace F1 : Cl w1 b1 92 [.int .i64 (p1_0), .int .i64 (p1_1), .bool (p1_2)] := F1
 replace F0_0_0 := F0_0_0.chg hc1 Dj.nil
 replace F0_0 := F0_0.chg hc1 notNil
 replace F0_5 := F0_5.chg hc1 Dj.nil
 replace F0 := F0.chg hc1 notNil
 replace hB := hB.inS hc1 inNil
 replace G1 := Nat.le_trans hZ G1
 replace hZ := Nat.le_trans hZ hc1.size
 refine wS_pure 1 [(4, .slice none 0 0)] (by kernel_rfl) ?_
 refine wS_end (by rfl) ?_
 refine eX_then ?_
 refine cW_seq ?_
 refine cW_region ?_
 refine wS_pure 1 [(8, .pointer (some ⟨b1, 0, none⟩))] (by kernel_rfl) ?_
 refine wS_loadA (d := 9) (T := 29) (ad := ⟨b1, 0, none⟩) (vs := [.int .i64 (p1_0), .int .i64 (p1_1)]) (by kernel_rfl) vt29 (fun i u hu => box_cells F1 0 hu (by rfl)) ?_
 refine wS_pure 1 [(10, .pointer (some ⟨b1, 2, none⟩))] (by kernel_rfl) ?_
 refine wS_load1 (d := 11) (T := 4) (ad := ⟨b1, 2, none⟩) (v := .bool (p1_2)) (by kernel_rfl) vt4 ((F1).cell 2) ?_
 refine wS_pure 2 [(13, .agg #[.int .i64 (p1_0), .int .i64 (p1_1), .bool (!p1_2)]), (12, .bool (!p1_2))] (by kernel_rfl) ?_
 refine wS_bs (enc := encIIB) ([(p1_0, p1_1, !p1_2)] : List (Int × Int × Bool)) [.int .i64 (p1_0), .int .i64 (p1_1), .bool (!p1_2)] (d := 14) (t := 107) (T := 92) (n := 1) (ps := [(0, .agg #[.int .i64 (p1_0), .int .i64 (p1_1), .bool (!p1_2)])]) (by kernel_rfl) el107 encIIB_ok (by rfl) (by omega) (by omega) (by kernel_rfl) (by rfl) ?_
 intro b2 w2 G2 F2 hc2
 have D1 : Dj [b1] [b2] := Dj.of (lt1 F1.lt) (low1 G2)
 replace F0_0_0 := F0_0_0.chg hc2 Dj.nil
 replace F0_0 := F0_0.chg hc2 notNil
 replace F0_5 := F0_5.chg hc2 Dj.nil
 replace F0 := F0.chg hc2 notNil
 replace F1 := F1.chg hc2 notNil
 replace hB := hB.inS hc2 inNil
 replace G2 := Nat.le_trans hZ G2
 replace G2 := low1 G2
 replace hZ := Nat.le_trans hZ hc2.size
 refine wS_pure 1 [(5, .slice (some ⟨b2, 0, none⟩) (([(p1_0, p1_1, !p1_2)] : List (Int × Int × Bool))).length 1)] (by kernel_rfl) ?_
 refine wS_end (by rfl) ?_
 refine eX_then ?_
 refine cW_seq ?_
 refine cW_seq ?_
 refine cW_region ?_
 refine wS_pure 1 [(15, .int .i64 (0))] (by kernel_rfl) ?_
 refine wS_end (by rfl) ?_
 refine eX_then ?_
 obtain ⟨r1, hr1, hm⟩ := bindE hm
 have hm1 := hm
 refine cW_cut (fun a' w' => ∃ l1 : List (Int × Int × Bool), ∃ A1 : Option Addr, ∃ cap1 : Nat, ∃ fp1 : List Nat, l1 = r1 ∧ Fr 38 [(5, .slice A1 (l1).length cap1)] a' ∧ Ow 3 encIIB 92 w' fp1 A1 cap1 l1 ∧ (∀ x ∈ fp1, w0.heap.size ≤ x) ∧ Chg [] w0 w' ∧ w0.heap.size ≤ w'.heap.size) ?_ ?_
 ·refine cW_block ?_
  refine cW_loop _ (fun (s1 : (List (Int × Int × Bool)) × Int) a' w' => ∃ l3 : List (Int × Int × Bool), ∃ A3 : Option Addr, ∃ cap3 : Nat, ∃ fp2 : List Nat, ∃ x1 : Int, (l3, x1) = s1 ∧ Fr 38 [(0, .pointer (some ⟨b0, 0, none⟩)), (3, .pointer (some ⟨b1, 0, none⟩)), (5, .slice A3 (l3).length cap3), (15, .int .i64 (x1))] a' ∧ SlR 1 encI w' fp0_0_0 A0_0_0 l0_0_0 ∧ Cl w' b0_0 26 [.slice A0_0_0 (l0_0_0).length cap0_0_0] ∧ Mp okIIBIIB ekIIBIIB vB w' b0_5 l0_5 ∧ Cl w' b0 86 [.pointer (some ⟨b0_0, 0, none⟩), .int .i64 (q0_1), .int .i64 (q0_2), .int .i64 (q0_3), .int .i64 (q0_4), .map (some b0_5)] ∧ Cl w' b1 92 [.int .i64 (p1_0), .int .i64 (p1_1), .bool (p1_2)] ∧ Ow 3 encIIB 92 w' fp2 A3 cap3 l3 ∧ (∀ x ∈ fp2, w0.heap.size ≤ x) ∧ Dj [b1] fp2 ∧ Chg [] w0 w' ∧ w0.heap.size ≤ w'.heap.size) hr1 (fun hst => ⟨([(p1_0, p1_1, !p1_2)] : List (Int × Int × Bool)), (some ⟨b2, 0, none⟩), 1, [b2], 0, rfl, Fr.of hst (by kernel_rfl), F0_0_0, F0_0, F0_5, F0, F1, F2, G2, D1, hB, hZ⟩) ?_
  rintro _ c1 a' w3 ⟨l3, A3, cap3, fp2, x1, rfl, hF1, F3, F4, F5, F6, F7, F8, G3, D2, hB, hZ⟩ hx1
  refine Fr.goOn hF1 (by kernel_rfl) ?_
  have hm := hx1
  unfold m_impl_flow_beside_bimplflow_bimplMaze_s1 at hm
  refine cW_seq ?_
  refine cW_region ?_
  refine wS_pure 1 [(16, .bool (decide (x1 < 4)))] (by kernel_rfl) ?_
  refine wS_end (by rfl) ?_
  refine eX_then ?_
  refine cW_seq ?_
  refine cW_cond (t := decide (x1 < 4)) (by kernel_rfl) (fun hb1 => ?_) (fun hb1 => ?_)
  ·have hm := condT hb1 hm
   refine cW_skip ?_
   refine eX_then ?_
   refine cW_seq ?_
   refine cW_block ?_
   obtain ⟨s2, hs1, hm⟩ := bindE hm
   refine cW_cut (fun a' w' => ∃ l4 : List (Int × Int × Bool), ∃ A4 : Option Addr, ∃ cap4 : Nat, ∃ fp3 : List Nat, l4 = s2 ∧ Fr 38 [(0, .pointer (some ⟨b0, 0, none⟩)), (3, .pointer (some ⟨b1, 0, none⟩)), (5, .slice A4 (l4).length cap4), (15, .int .i64 (x1))] a' ∧ SlR 1 encI w' fp0_0_0 A0_0_0 l0_0_0 ∧ Cl w' b0_0 26 [.slice A0_0_0 (l0_0_0).length cap0_0_0] ∧ Mp okIIBIIB ekIIBIIB vB w' b0_5 l0_5 ∧ Cl w' b0 86 [.pointer (some ⟨b0_0, 0, none⟩), .int .i64 (q0_1), .int .i64 (q0_2), .int .i64 (q0_3), .int .i64 (q0_4), .map (some b0_5)] ∧ Cl w' b1 92 [.int .i64 (p1_0), .int .i64 (p1_1), .bool (p1_2)] ∧ Ow 3 encIIB 92 w' fp3 A4 cap4 l4 ∧ (∀ x ∈ fp3, w0.heap.size ≤ x) ∧ Dj [b1] fp3 ∧ Chg [] w0 w' ∧ w0.heap.size ≤ w'.heap.size) ?_ ?_
   ·have hm := hs1
    refine cW_seq ?_
    refine cW_region ?_
    refine wS_pure 2 [(6, .int .i64 (x1)), (17, .int .i64 (x1))] (by kernel_rfl) ?_
    refine wS_end (by rfl) ?_
    refine eX_then ?_
    refine cW_seq ?_
    refine cW_region ?_
    refine wS_pure 1 [(18, .pointer (some ⟨b1, 0, none⟩))] (by kernel_rfl) ?_
    refine wS_loadA (d := 19) (T := 29) (ad := ⟨b1, 0, none⟩) (vs := [.int .i64 (p1_0), .int .i64 (p1_1)]) (by kernel_rfl) vt29 (fun i u hu => box_cells F7 0 hu (by rfl)) ?_
    refine wS_pure 1 [(20, .int .i64 (x1))] (by kernel_rfl) ?_
    obtain ⟨y1, hy1, hm⟩ := bindE hm
    refine wS_calls (d := 21) (f := 56) (vs := [.agg #[.int .i64 (p1_0), .int .i64 (p1_1)], .int .i64 (x1)]) (by kernel_rfl) ent56 (c_impl_next hy1) ?_
    rintro _ w4 ⟨rfl, hc3⟩
    replace F3 := F3.chg hc3 Dj.nil
    replace F4 := F4.chg hc3 notNil
    replace F5 := F5.chg hc3 Dj.nil
    replace F6 := F6.chg hc3 notNil
    replace F7 := F7.chg hc3 notNil
    replace F8 := F8.chg hc3 Dj.nil
    replace hB := hB.inS hc3 inNil
    replace hZ := Nat.le_trans hZ hc3.size
    refine ⟨.agg #[.int .i64 (y1.1), .int .i64 (y1.2)], rfl, ?_⟩
    refine wS_alloc (d := 7) (T := 29) (z := .agg #[.int .i64 (0), .int .i64 (0)]) (by kernel_rfl) (by kernel_rfl) ?_
    intro b3 w5 G4 F9 hc4
    replace F9 : Cl w5 b3 29 [.int .i64 (0), .int .i64 (0)] := F9
    have D3 : Dj [b1] [b3] := Dj.of (lt1 F7.lt) (low1 G4)
    have D4 : Dj fp2 [b3] := Dj.of F8.low (low1 G4)
    replace F3 := F3.chg hc4 Dj.nil
    replace F4 := F4.chg hc4 notNil
    replace F5 := F5.chg hc4 Dj.nil
    replace F6 := F6.chg hc4 notNil
    replace F7 := F7.chg hc4 notNil
    replace F8 := F8.chg hc4 Dj.nil
    replace hB := hB.inS hc4 inNil
    replace G4 := Nat.le_trans hZ G4
    replace hZ := Nat.le_trans hZ hc4.size
    refine wS_store (T := 29) (g := b3) (o := 0) (ad := ⟨b3, 0, none⟩) (v := .agg #[.int .i64 (y1.1), .int .i64 (y1.2)]) (vs := [.int .i64 (y1.1), .int .i64 (y1.2)]) (by kernel_rfl) (by rfl) sz29 (by rfl) (by rfl) F9 (by simp only [List.length_cons, List.length_nil]; omega) ?_
    intro w6 F10 hc5
    replace F3 := F3.chg hc5 (Dj.of L0_0_0 (low1 G4))
    replace F4 := F4.chg hc5 (dj1 (Dj.of L0_0 (low1 G4)))
    replace F5 := F5.chg hc5 (Dj.of L0_5 (low1 G4))
    replace F6 := F6.chg hc5 (dj1 (Dj.of L0 (low1 G4)))
    replace F7 := F7.chg hc5 (dj1 D3)
    replace F8 := F8.chg hc5 D4
    replace hB := hB.inS hc5 (inLow (low1 G4))
    replace hZ := Nat.le_trans hZ hc5.size
    replace F10 : Cl w6 b3 29 [.int .i64 (y1.1), .int .i64 (y1.2)] := F10
    clear F9
    refine wS_end (by rfl) ?_
    refine eX_then ?_
    refine cW_seq ?_
    refine cW_drawnTail [] 5 (by kernel_rfl) (by kernel_rfl) (fun w7 hc6 => ?_)
    replace F3 := F3.chg hc6 Dj.nil
    replace F4 := F4.chg hc6 notNil
    replace F5 := F5.chg hc6 Dj.nil
    replace F6 := F6.chg hc6 notNil
    replace F7 := F7.chg hc6 notNil
    replace F8 := F8.chg hc6 Dj.nil
    replace F10 := F10.chg hc6 notNil
    replace hB := hB.inS hc6 inNil
    replace hZ := Nat.le_trans hZ hc6.size
    have hS := Chg.refl [] w7
    have Z1 := F3
    have Z2 := F4
    have Z3 := F5
    have Z4 := F6
    have Z5 := F7
    have Z6 := F8
    have Z7 := F10
    refine wH_take [0, 1, 2] [2, 1, 0] [(24, .pointer (some ⟨b0, 0, none⟩)), (23, .pointer (some ⟨b0, 0, none⟩)), (22, .pointer (some ⟨b0, 0, none⟩))] (by kernel_rfl) (qT (qT (qT (qB (qT (qL (qB (qT (qT qZ))))))))) (by kernel_rfl) ?_
    refine wH_load1 (i := 3) (d := 25) (T := 56) (ad := ⟨b0, 0, none⟩) (v := .pointer (some ⟨b0_0, 0, none⟩)) (by kernel_rfl) (qT (qT (qT (qB (qT (qL (qB (qT (qT qZ))))))))) (by kernel_rfl) (by kernel_rfl) vt56 (fun W hW => (Z4.chg hW notNil).cell 0) ?_
    refine wH_loadA (i := 4) (d := 26) (T := 29) (ad := ⟨b3, 0, none⟩) (vs := [.int .i64 (y1.1), .int .i64 (y1.2)]) (by kernel_rfl) (qT (qT (qT (qB (qT (qL (qB (qT (qT qZ))))))))) (by kernel_rfl) (by kernel_rfl) vt29 (fun W hW i u hu => box_cells (Z7.chg hW notNil) 0 hu (by rfl)) ?_
    refine wH_done (by kernel_rfl) ?_
    refine eX_tail ?_
    obtain ⟨y2, hy2, hm⟩ := bindE hm
    refine wS_calls (d := 27) (f := 33) (vs := [.pointer (some ⟨b0_0, 0, none⟩), .agg #[.int .i64 (y1.1), .int .i64 (y1.2)]]) (by kernel_rfl) ent33 (c_impl_Maze_open_bimplMaze hy2 F3 F4) ?_
    rintro _ w8 ⟨rfl, hc7⟩
    replace F3 := F3.chg hc7 Dj.nil
    replace F4 := F4.chg hc7 notNil
    replace F5 := F5.chg hc7 Dj.nil
    replace F6 := F6.chg hc7 notNil
    replace F7 := F7.chg hc7 notNil
    replace F8 := F8.chg hc7 Dj.nil
    replace F10 := F10.chg hc7 notNil
    replace hB := hB.inS hc7 inNil
    replace hZ := Nat.le_trans hZ hc7.size
    refine ⟨.bool (y2), rfl, ?_⟩
    refine wS_end (by rfl) ?_
    refine eX_then ?_
    refine cW_cond (t := y2) (by kernel_rfl) (fun hb2 => ?_) (fun hb2 => ?_)
    ·have hm := condT hb2 hm
     refine cW_region ?_
     refine wS_pure 1 [(28, .slice A3 (l3).length cap3)] (by kernel_rfl) ?_
     refine wS_loadA (d := 29) (T := 29) (ad := ⟨b3, 0, none⟩) (vs := [.int .i64 (y1.1), .int .i64 (y1.2)]) (by kernel_rfl) vt29 (fun i u hu => box_cells F10 0 hu (by rfl)) ?_
     refine wS_pure 1 [(30, .pointer (some ⟨b1, 2, none⟩))] (by kernel_rfl) ?_
     refine wS_load1 (d := 31) (T := 4) (ad := ⟨b1, 2, none⟩) (v := .bool (p1_2)) (by kernel_rfl) vt4 ((F7).cell 2) ?_
     refine wS_pure 2 [(33, .agg #[.int .i64 (y1.1), .int .i64 (y1.2), .bool (!p1_2)]), (32, .bool (!p1_2))] (by kernel_rfl) ?_
     refine wS_bs (enc := encIIB) ([(y1.1, y1.2, !p1_2)] : List (Int × Int × Bool)) [.int .i64 (y1.1), .int .i64 (y1.2), .bool (!p1_2)] (d := 34) (t := 107) (T := 92) (n := 1) (ps := [(0, .agg #[.int .i64 (y1.1), .int .i64 (y1.2), .bool (!p1_2)])]) (by kernel_rfl) el107 encIIB_ok (by rfl) (by omega) (by omega) (by kernel_rfl) (by rfl) ?_
     intro b4 w9 G5 F11 hc8
     have D5 : Dj [b1] [b4] := Dj.of (lt1 F7.lt) (low1 G5)
     have D6 : Dj fp2 [b4] := Dj.of F8.low (low1 G5)
     have D7 : Dj [b3] [b4] := Dj.of (lt1 F10.lt) (low1 G5)
     replace F3 := F3.chg hc8 Dj.nil
     replace F4 := F4.chg hc8 notNil
     replace F5 := F5.chg hc8 Dj.nil
     replace F6 := F6.chg hc8 notNil
     replace F7 := F7.chg hc8 notNil
     replace F8 := F8.chg hc8 Dj.nil
     replace F10 := F10.chg hc8 notNil
     replace hB := hB.inS hc8 inNil
     replace G5 := Nat.le_trans hZ G5
     replace G5 := low1 G5
     replace hZ := Nat.le_trans hZ hc8.size
     obtain ⟨_, hk1, hm⟩ := bindE hm
     replace hk1 := apE hk1
     refine wS_append (enc := encIIB) (l := (l3 : List (Int × Int × Bool))) (l2 := (([(y1.1, y1.2, !p1_2)] : List (Int × Int × Bool)) : List (Int × Int × Bool))) (d := 35) (t := 107) (T := 92) (A := A3) (A2 := (some ⟨b4, 0, none⟩)) (cap := cap3) (cap2 := 1) (by kernel_rfl) el107 encIIB_ok F8 (F11.sl encIIB_ok) (by rfl) hk1 ?_
     intro w10 fp4 A5 cap5 F12 hc9 hp1
     have G6 := low_ap G3 hZ hp1
     have D8 : Dj [b1] fp4 := Dj.ap D2 (lt1 F7.lt) hp1
     have D9 : Dj [b3] fp4 := Dj.ap (D4).symm (lt1 F10.lt) hp1
     have D10 : Dj [b4] fp4 := Dj.ap (D6).symm F11.low hp1
     replace F3 := F3.chg hc9 (Dj.of L0_0_0 G3)
     replace F4 := F4.chg hc9 (dj1 (Dj.of L0_0 G3))
     replace F5 := F5.chg hc9 (Dj.of L0_5 G3)
     replace F6 := F6.chg hc9 (dj1 (Dj.of L0 G3))
     replace F7 := F7.chg hc9 (dj1 D2)
     replace F10 := F10.chg hc9 (dj1 (D4).symm)
     replace F11 := F11.chg hc9 (D6).symm
     replace hB := hB.inS hc9 (inLow G3)
     replace hZ := Nat.le_trans hZ hc9.size
     refine wS_pure 1 [(5, .slice A5 (l3 ++ (([(y1.1, y1.2, !p1_2)] : List (Int × Int × Bool)))).length cap5)] (by kernel_rfl) ?_
     refine wS_end (by rfl) ?_
     have hq : (some (l3 ++ (([(y1.1, y1.2, !p1_2)] : List (Int × Int × Bool)))) : Option ((List (Int × Int × Bool)))) = some _ := hm
     replace hq := someE hq
     subst hq
     exact eX_J (fun hst => ⟨l3 ++ (([(y1.1, y1.2, !p1_2)] : List (Int × Int × Bool))), A5, cap5, fp4, rfl, Fr.of hst (by kernel_rfl), F3, F4, F5, F6, F7, F12, G6, D8, hB, hZ⟩)
    ·have hm := condF hb2 hm
     refine cW_skip ?_
     have hq : (some l3 : Option ((List (Int × Int × Bool)))) = some _ := hm
     replace hq := someE hq
     subst hq
     exact eX_J (fun hst => ⟨l3, A3, cap3, fp2, rfl, Fr.of hst (by kernel_rfl), F3, F4, F5, F6, F7, F8, G3, D2, hB, hZ⟩)
   ·rintro a' w11 ⟨l4, A4, cap4, fp3, hJ, hF2, F13, F14, F15, F16, F17, F18, G7, D11, hB, hZ⟩
    subst hJ
    refine Fr.goX hF2 (by kernel_rfl) ?_
    refine eX_block ?_
    refine eX_then ?_
    refine cW_region ?_
    refine wS_pure 2 [(15, .int .i64 (wr (x1 + 1))), (36, .int .i64 (wr (x1 + 1)))] (by kernel_rfl) ?_
    refine wS_end (by rfl) ?_
    have hq : (some (Ctl.next ((l4, wr (x1 + 1)))) : Option (Ctl ((List (Int × Int × Bool)) × Int) ((List (Int × Int × Bool))))) = some _ := hm
    replace hq := someE hq
    subst hq
    exact eX_next hx1 (fun hst => ⟨l4, A4, cap4, fp3, wr (x1 + 1), rfl, Fr.of hst (by kernel_rfl), F13, F14, F15, F16, F17, F18, G7, D11, hB, hZ⟩)
  ·have hm := condF hb1 hm
   refine cW_exit ?_
   refine eX_then_exit ?_
   have hq : (some (Ctl.out l3) : Option (Ctl ((List (Int × Int × Bool)) × Int) ((List (Int × Int × Bool))))) = some _ := hm
   replace hq := someE hq
   subst hq
   refine eX_outX hx1 (fun hr2 => ?_)
   replace hr2 := hr2.symm
   subst hr2
   refine eX_block_hit ?_
   exact eX_J (fun hst => ⟨l3, A3, cap3, fp2, rfl, Fr.of hst (by kernel_rfl), F8, G3, hB, hZ⟩)
 ·rintro a' w12 ⟨l1, A1, cap1, fp1, hJ, hF3, F19, G8, hB, hZ⟩
  subst hJ
  refine Fr.goX hF3 (by kernel_rfl) ?_
  refine eX_then ?_
  refine cW_seq ?_
  refine cW_region ?_
  refine wS_pure 2 [(4, .slice A1 (l1).length cap1), (37, .slice A1 (l1).length cap1)] (by kernel_rfl) ?_
  refine wS_end (by rfl) ?_
  refine eX_then ?_
  refine cW_ret ?_
  have hq : (some l1 : Option ((List (Int × Int × Bool)))) = some _ := hm
  replace hq := someE hq
  subst hq
  refine eX_ret (vs := [.slice A1 (l1).length cap1]) [.tmp 4] (by rfl) ⟨by (show lkE _ _ _ = _); kernel_rfl, trivial⟩ ?_
  exact ⟨A1, cap1, fp1, rfl, F19, G8, hB⟩

set_option maxRecDepth 100000 in
/-- impl.flow).room -/
theorem c_impl_flow_room_bimplflow_bimplMaze {w0 : World} {l0_0_0 : List (List (Int))} {A0_0_0 : Option Addr} {cap0_0_0 : Nat} {fp0_0_0 : List Nat} {b0_0 : Nat} {q0_1 : Int} {q0_2 : Int} {q0_3 : Int} {q0_4 : Int} {l0_5 : List ((Int × Int × Bool × Int × Int × Bool) × Bool)} {b0_5 : Nat} {b0 : Nat} {p1_0 : Int} {p1_1 : Int} {p1_2 : Bool} {p2_0 : Int} {p2_1 : Int} {p2_2 : Bool} {r : (Bool)} (hm : m_impl_flow_room_bimplflow_bimplMaze l0_0_0 q0_1 q0_2 q0_3 q0_4 l0_5 p1_0 p1_1 p1_2 p2_0 p2_1 p2_2 = some r) (F0_0_0 : SlR 1 encI w0 fp0_0_0 A0_0_0 l0_0_0) (F0_0 : Cl w0 b0_0 26 [.slice A0_0_0 (l0_0_0).length cap0_0_0]) (F0_5 : Mp okIIBIIB ekIIBIIB vB w0 b0_5 l0_5) (F0 : Cl w0 b0 86 [.pointer (some ⟨b0_0, 0, none⟩), .int .i64 (q0_1), .int .i64 (q0_2), .int .i64 (q0_3), .int .i64 (q0_4), .map (some b0_5)]) :
  Calls Try.prog 67 #[.pointer (some ⟨b0, 0, none⟩), .agg #[.int .i64 (p1_0), .int .i64 (p1_1), .bool (p1_2)], .agg #[.int .i64 (p2_0), .int .i64 (p2_1), .bool (p2_2)]] w0 fun e w' => e = .returned (.bool (r)) ∧ Chg [] w0 w' := by
 have L0_0_0 := F0_0_0.low
 have L0_0 := lt1 F0_0.lt
 have L0_5 := F0_5.low
 have L0 := lt1 F0.lt
 have hB : Chg [] w0 w0 := Chg.refl _ _
 have hZ := Nat.le_refl w0.heap.size
 unfold m_impl_flow_room_bimplflow_bimplMaze at hm
 refine enterE (N := 58) Try.func67 (by rfl) Try.ntmps67 (by simp) [(0, .pointer (some ⟨b0, 0, none⟩)), (1, .agg #[.int .i64 (p1_0), .int .i64 (p1_1), .bool (p1_2)]), (2, .agg #[.int .i64 (p2_0), .int .i64 (p2_1), .bool (p2_2)])] (by rfl) (by kernel_rfl) (fun a => ?_)
 refine cW_seq ?_
 refine cW_region ?_
 refine wS_box (d := 4) (T := 92) (x := .agg #[.int .i64 (p1_0), .int .i64 (p1_1), .bool (p1_2)]) (by kernel_rfl) ?_
 intro b1 w1 G1 F1 hc1
 replace F1 : Cl w1 b1 92 [.int .i64 (p1_0), .int .i64 (p1_1), .bool (p1_2)] := F1
 replace F0_0_0 := F0_0_0.chg hc1 Dj.nil
 replace F0_0 := F0_0.chg hc1 notNil
 replace F0_5 := F0_5.chg hc1 Dj.nil
 replace F0 := F0.chg hc1 notNil
 replace hB := hB.inS hc1 inNil
 replace G1 := Nat.le_trans hZ G1
 replace hZ := Nat.le_trans hZ hc1.size
 refine wS_box (d := 5) (T := 92) (x := .agg #[.int .i64 (p2_0), .int .i64 (p2_1), .bool (p2_2)]) (by kernel_rfl) ?_
 intro b2 w2 G2 F2 hc2
 replace F2 : Cl w2 b2 92 [.int .i64 (p2_0), .int .i64 (p2_1), .bool (p2_2)] := F2
 have D1 : Dj [b1] [b2] := Dj.of (lt1 F1.lt) (low1 G2)
 replace F0_0_0 := F0_0_0.chg hc2 Dj.nil
 replace F0_0 := F0_0.chg hc2 notNil
 replace F0_5 := F0_5.chg hc2 Dj.nil
 replace F0 := F0.chg hc2 notNil
 replace F1 := F1.chg hc2 notNil
 replace hB := hB.inS hc2 inNil
 replace G2 := Nat.le_trans hZ G2
 replace hZ := Nat.le_trans hZ hc2.size
 refine wS_pure 1 [(6, .bool (false))] (by kernel_rfl) ?_
 refine wS_end (by rfl) ?_
 refine eX_then ?_
 refine cW_seq ?_
 refine cW_seq ?_
 refine cW_drawnTail [] 7 (by kernel_rfl) (by kernel_rfl) (fun w3 hc3 => ?_)
 replace F0_0_0 := F0_0_0.chg hc3 Dj.nil
 replace F0_0 := F0_0.chg hc3 notNil
 replace F0_5 := F0_5.chg hc3 Dj.nil
 replace F0 := F0.chg hc3 notNil
 replace F1 := F1.chg hc3 notNil
 replace F2 := F2.chg hc3 notNil
 replace hB := hB.inS hc3 inNil
 replace hZ := Nat.le_trans hZ hc3.size
 have hS := Chg.refl [] w3
 have Z1 := F0_0_0
 have Z2 := F0_0
 have Z3 := F0_5
 have Z4 := F0
 have Z5 := F1
 have Z6 := F2
 refine wH_take [0, 1, 2] [2, 1, 0] [(9, .pointer (some ⟨b0, 5, none⟩)), (8, .pointer (some ⟨b0, 0, none⟩)), (7, .pointer (some ⟨b0, 0, none⟩))] (by kernel_rfl) (qT (qT (qT qZ))) (by kernel_rfl) ?_
 refine wH_load1 (i := 3) (d := 10) (T := 84) (ad := ⟨b0, 5, none⟩) (v := .map (some b0_5)) (by kernel_rfl) (qT (qT (qT qZ))) (by kernel_rfl) (by kernel_rfl) vt84 (fun W hW => (Z4.chg hW notNil).cell 5) ?_
 refine wH_loadA (i := 4) (d := 11) (T := 92) (ad := ⟨b2, 0, none⟩) (vs := [.int .i64 (p2_0), .int .i64 (p2_1), .bool (p2_2)]) (by kernel_rfl) (qT (qT (qT qZ))) (by kernel_rfl) (by kernel_rfl) vt92 (fun W hW i u hu => box_cells (Z6.chg hW notNil) 0 hu (by rfl)) ?_
 refine wH_loadA (i := 5) (d := 12) (T := 92) (ad := ⟨b1, 0, none⟩) (vs := [.int .i64 (p1_0), .int .i64 (p1_1), .bool (p1_2)]) (by kernel_rfl) (qT (qT (qT qZ))) (by kernel_rfl) (by kernel_rfl) vt92 (fun W hW i u hu => box_cells (Z5.chg hW notNil) 0 hu (by rfl)) ?_
 refine wH_take [6] [6, 5, 4, 3, 2, 1, 0] [(13, .agg #[.int .i64 (p2_0), .int .i64 (p2_1), .bool (p2_2), .int .i64 (p1_0), .int .i64 (p1_1), .bool (p1_2)])] (by kernel_rfl) (qT (qT (qT qZ))) (by kernel_rfl) ?_
 refine wH_done (by kernel_rfl) ?_
 refine eX_tail ?_
 obtain ⟨y1, hy1, hm⟩ := bindE hm
 refine wS_look (k := (p2_0, p2_1, p2_2, p1_0, p1_1, p1_2)) (d := 14) (T := 84) (by kernel_rfl) mk84 mp84 F0_5 hy1 ?_
 refine wS_end (by rfl) ?_
 refine eX_then ?_
 refine cW_cond (t := y1) (by kernel_rfl) (fun hb1 => ?_) (fun hb1 => ?_)
 ·have hm := condT hb1 hm
  refine cW_seq ?_
  refine cW_region ?_
  refine wS_pure 1 [(6, .bool (true))] (by kernel_rfl) ?_
  refine wS_end (by rfl) ?_
  refine eX_then ?_
  refine cW_ret ?_
  refine eX_then_ret ?_
  have hq : (some true : Option ((Bool))) = some _ := hm
  replace hq := someE hq
  subst hq
  refine eX_ret (vs := [.bool (true)]) [.tmp 6] (by rfl) ⟨by (show lkE _ _ _ = _); kernel_rfl, trivial⟩ ?_
  exact ⟨rfl, hB⟩
 ·have hm := condF hb1 hm
  refine cW_skip ?_
  refine eX_then ?_
  refine cW_seq ?_
  refine cW_seq ?_
  refine cW_drawnTail [] 7 (by kernel_rfl) (by kernel_rfl) (fun w4 hc4 => ?_)
  replace F0_0_0 := F0_0_0.chg hc4 Dj.nil
  replace F0_0 := F0_0.chg hc4 notNil
  replace F0_5 := F0_5.chg hc4 Dj.nil
  replace F0 := F0.chg hc4 notNil
  replace F1 := F1.chg hc4 notNil
  replace F2 := F2.chg hc4 notNil
  replace hB := hB.inS hc4 inNil
  replace hZ := Nat.le_trans hZ hc4.size
  have hS := Chg.refl [] w4
  have Z7 := F0_0_0
  have Z8 := F0_0
  have Z9 := F0_5
  have Z10 := F0
  have Z11 := F1
  have Z12 := F2
  refine wH_take [0, 1, 2] [2, 1, 0] [(17, .pointer (some ⟨b0, 5, none⟩)), (16, .pointer (some ⟨b0, 0, none⟩)), (15, .pointer (some ⟨b0, 0, none⟩))] (by kernel_rfl) (qT (qT (qT qZ))) (by kernel_rfl) ?_
  refine wH_load1 (i := 3) (d := 18) (T := 84) (ad := ⟨b0, 5, none⟩) (v := .map (some b0_5)) (by kernel_rfl) (qT (qT (qT qZ))) (by kernel_rfl) (by kernel_rfl) vt84 (fun W hW => (Z10.chg hW notNil).cell 5) ?_
  refine wH_loadA (i := 4) (d := 19) (T := 92) (ad := ⟨b1, 0, none⟩) (vs := [.int .i64 (p1_0), .int .i64 (p1_1), .bool (p1_2)]) (by kernel_rfl) (qT (qT (qT qZ))) (by kernel_rfl) (by kernel_rfl) vt92 (fun W hW i u hu => box_cells (Z11.chg hW notNil) 0 hu (by rfl)) ?_
  refine wH_loadA (i := 5) (d := 20) (T := 92) (ad := ⟨b2, 0, none⟩) (vs := [.int .i64 (p2_0), .int .i64 (p2_1), .bool (p2_2)]) (by kernel_rfl) (qT (qT (qT qZ))) (by kernel_rfl) (by kernel_rfl) vt92 (fun W hW i u hu => box_cells (Z12.chg hW notNil) 0 hu (by rfl)) ?_
  refine wH_take [6] [6, 5, 4, 3, 2, 1, 0] [(21, .agg #[.int .i64 (p1_0), .int .i64 (p1_1), .bool (p1_2), .int .i64 (p2_0), .int .i64 (p2_1), .bool (p2_2)])] (by kernel_rfl) (qT (qT (qT qZ))) (by kernel_rfl) ?_
  refine wH_done (by kernel_rfl) ?_
  refine eX_tail ?_
  obtain ⟨y2, hy2, hm⟩ := bindE hm
  refine wS_look (k := (p1_0, p1_1, p1_2, p2_0, p2_1, p2_2)) (d := 22) (T := 84) (by kernel_rfl) mk84 mp84 F0_5 hy2 ?_
  refine wS_end (by rfl) ?_
  refine eX_then ?_
  refine cW_cond (t := y2) (by kernel_rfl) (fun hb2 => ?_) (fun hb2 => ?_)
  ·have hm := condT hb2 hm
   refine cW_seq ?_
   refine cW_drawnTail [] 18 (by kernel_rfl) (by kernel_rfl) (fun w5 hc5 => ?_)
   replace F0_0_0 := F0_0_0.chg hc5 Dj.nil
   replace F0_0 := F0_0.chg hc5 notNil
   replace F0_5 := F0_5.chg hc5 Dj.nil
   replace F0 := F0.chg hc5 notNil
   replace F1 := F1.chg hc5 notNil
   replace F2 := F2.chg hc5 notNil
   replace hB := hB.inS hc5 inNil
   replace hZ := Nat.le_trans hZ hc5.size
   have hS := Chg.refl [] w5
   have Z13 := F0_0_0
   have Z14 := F0_0
   have Z15 := F0_5
   have Z16 := F0
   have Z17 := F1
   have Z18 := F2
   refine wH_take [0] [0] [(23, .pointer (some ⟨b1, 2, none⟩))] (by kernel_rfl) (qT (qT (qT qZ))) (by kernel_rfl) ?_
   refine wH_load1 (i := 1) (d := 24) (T := 4) (ad := ⟨b1, 2, none⟩) (v := .bool (p1_2)) (by kernel_rfl) (qT (qT (qT qZ))) (by kernel_rfl) (by kernel_rfl) vt4 (fun W hW => (Z17.chg hW notNil).cell 2) ?_
   refine wH_take [2] [2, 1, 0] [(25, .bool (p1_2))] (by kernel_rfl) (qT (qT (qT qZ))) (by kernel_rfl) ?_
   refine wH_bool p1_2 (fun hb3 => ?_) (fun hb3 => ?_)
   ·have hm := condT hb3 hm
    rewrite [hb3]
    refine wH_take [3, 4, 5, 6, 7, 8, 9, 10, 11, 12, 13, 14, 15, 16, 17] [17, 16, 15, 14, 13, 12, 11, 10, 9, 8, 7, 6, 5, 4, 3, 2, 1, 0] [(40, undef), (39, undef), (38, undef), (37, undef), (36, undef), (35, undef), (34, .bool (true)), (33, .bool (true)), (32, undef), (31, undef), (30, undef), (29, undef), (28, undef), (27, undef), (26, undef)] (by kernel_rfl) (qT (qT (qT qZ))) (by kernel_rfl) ?_
    refine wH_done (by kernel_rfl) ?_
    refine eX_tail ?_
    refine wS_pure 3 [(6, .bool (true)), (42, .bool (true)), (41, undef)] (by kernel_rfl) ?_
    refine wS_end (by rfl) ?_
    refine eX_then ?_
    refine cW_prune [(6, .bool (true))] (by kernel_rfl) (by kernel_rfl) (fun a1 => ?_)
    refine cW_ret ?_
    refine eX_then_ret ?_
    have hq : (some true : Option ((Bool))) = some _ := hm
    replace hq := someE hq
    subst hq
    refine eX_ret (vs := [.bool (true)]) [.tmp 6] (by rfl) ⟨by (show lkE _ _ _ = _); kernel_rfl, trivial⟩ ?_
    exact ⟨rfl, hB⟩
   ·have hm := condF hb3 hm
    rewrite [hb3]
    refine wH_take [3] [3, 2, 1, 0] [(26, .pointer (some ⟨b1, 0, none⟩))] (by kernel_rfl) (qT (qT (qT qZ))) (by kernel_rfl) ?_
    refine wH_loadA (i := 4) (d := 27) (T := 29) (ad := ⟨b1, 0, none⟩) (vs := [.int .i64 (p1_0), .int .i64 (p1_1)]) (by kernel_rfl) (qT (qT (qT qZ))) (by kernel_rfl) (by kernel_rfl) vt29 (fun W hW i u hu => box_cells (Z17.chg hW notNil) 0 hu (by rfl)) ?_
    refine wH_take [5, 6, 7] [7, 6, 5, 4, 3, 2, 1, 0] [(30, .pointer (some ⟨b0, 1, none⟩)), (29, .pointer (some ⟨b0, 0, none⟩)), (28, .pointer (some ⟨b0, 0, none⟩))] (by kernel_rfl) (qT (qT (qT qZ))) (by kernel_rfl) ?_
    refine wH_loadA (i := 8) (d := 31) (T := 29) (ad := ⟨b0, 1, none⟩) (vs := [.int .i64 (q0_1), .int .i64 (q0_2)]) (by kernel_rfl) (qT (qT (qT qZ))) (by kernel_rfl) (by kernel_rfl) vt29 (fun W hW i u hu => box_cells (Z16.chg hW notNil) 1 hu (by rfl)) ?_
    refine wH_eqS (i := 9) (d := 32) (T := 29) (x := p1_0) (y := p1_1) (x' := q0_1) (y' := q0_2) (by kernel_rfl) (qT (qT (qT qZ))) (by kernel_rfl) (by kernel_rfl) eq29 ?_
    refine wH_take [10, 11] [11, 10, 9, 8, 7, 6, 5, 4, 3, 2, 1, 0] [(34, .bool (p1_0 == q0_1 && p1_1 == q0_2)), (33, .bool (p1_0 == q0_1 && p1_1 == q0_2))] (by kernel_rfl) (qT (qT (qT qZ))) (by kernel_rfl) ?_
    refine wH_bool (p1_0 == q0_1 && p1_1 == q0_2) (fun hb4 => ?_) (fun hb4 => ?_)
    ·have hm := condT hb4 hm
     rewrite [hb4]
     refine wH_take [12, 13, 14, 15, 16, 17] [17, 16, 15, 14, 13, 12, 11, 10, 9, 8, 7, 6, 5, 4, 3, 2, 1, 0] [(40, undef), (39, undef), (38, undef), (37, undef), (36, undef), (35, undef)] (by kernel_rfl) (qT (qT (qT qZ))) (by kernel_rfl) ?_
     refine wH_done (by kernel_rfl) ?_
     refine eX_tail ?_
     refine wS_pure 3 [(6, .bool (true)), (42, .bool (true)), (41, undef)] (by kernel_rfl) ?_
     refine wS_end (by rfl) ?_
     refine eX_then ?_
     refine cW_prune [(6, .bool (true))] (by kernel_rfl) (by kernel_rfl) (fun a2 => ?_)
     refine cW_ret ?_
     refine eX_then_ret ?_
     have hq : (some true : Option ((Bool))) = some _ := hm
     replace hq := someE hq
     subst hq
     refine eX_ret (vs := [.bool (true)]) [.tmp 6] (by rfl) ⟨by (show lkE _ _ _ = _); kernel_rfl, trivial⟩ ?_
     exact ⟨rfl, hB⟩
    ·have hm := condF hb4 hm
     rewrite [hb4]
     refine wH_take [12] [12, 11, 10, 9, 8, 7, 6, 5, 4, 3, 2, 1, 0] [(35, .pointer (some ⟨b1, 0, none⟩))] (by kernel_rfl) (qT (qT (qT qZ))) (by kernel_rfl) ?_
     refine wH_loadA (i := 13) (d := 36) (T := 29) (ad := ⟨b1, 0, none⟩) (vs := [.int .i64 (p1_0), .int .i64 (p1_1)]) (by kernel_rfl) (qT (qT (qT qZ))) (by kernel_rfl) (by kernel_rfl) vt29 (fun W hW i u hu => box_cells (Z17.chg hW notNil) 0 hu (by rfl)) ?_
     refine wH_take [14, 15, 16] [16, 15, 14, 13, 12, 11, 10, 9, 8, 7, 6, 5, 4, 3, 2, 1, 0] [(39, .pointer (some ⟨b0, 3, none⟩)), (38, .pointer (some ⟨b0, 0, none⟩)), (37, .pointer (some ⟨b0, 0, none⟩))] (by kernel_rfl) (qT (qT (qT qZ))) (by kernel_rfl) ?_
     refine wH_loadA (i := 17) (d := 40) (T := 29) (ad := ⟨b0, 3, none⟩) (vs := [.int .i64 (q0_3), .int .i64 (q0_4)]) (by kernel_rfl) (qT (qT (qT qZ))) (by kernel_rfl) (by kernel_rfl) vt29 (fun W hW i u hu => box_cells (Z16.chg hW notNil) 3 hu (by rfl)) ?_
     refine wH_done (by kernel_rfl) ?_
     refine eX_tail ?_
     refine wS_eqS (d := 41) (T := 29) (x := p1_0) (y := p1_1) (x' := q0_3) (y' := q0_4) (by kernel_rfl) eq29 ?_
     refine wS_pure 2 [(6, .bool (p1_0 == q0_3 && p1_1 == q0_4)), (42, .bool (p1_0 == q0_3 && p1_1 == q0_4))] (by kernel_rfl) ?_
     refine wS_end (by rfl) ?_
     refine eX_then ?_
     refine cW_prune [(6, .bool (p1_0 == q0_3 && p1_1 == q0_4))] (by kernel_rfl) (by kernel_rfl) (fun a3 => ?_)
     refine cW_ret ?_
     refine eX_then_ret ?_
     have hq : (some (p1_0 == q0_3 && p1_1 == q0_4) : Option ((Bool))) = some _ := hm
     replace hq := someE hq
     subst hq
     refine eX_ret (vs := [.bool (p1_0 == q0_3 && p1_1 == q0_4)]) [.tmp 6] (by rfl) ⟨by (show lkE _ _ _ = _); kernel_rfl, trivial⟩ ?_
     exact ⟨rfl, hB⟩
  ·have hm := condF hb2 hm
   refine cW_skip ?_
   refine eX_then ?_
   refine cW_seq ?_
   refine cW_drawnTail [] 13 (by kernel_rfl) (by kernel_rfl) (fun w6 hc6 => ?_)
   replace F0_0_0 := F0_0_0.chg hc6 Dj.nil
   replace F0_0 := F0_0.chg hc6 notNil
   replace F0_5 := F0_5.chg hc6 Dj.nil
   replace F0 := F0.chg hc6 notNil
   replace F1 := F1.chg hc6 notNil
   replace F2 := F2.chg hc6 notNil
   replace hB := hB.inS hc6 inNil
   replace hZ := Nat.le_trans hZ hc6.size
   have hS := Chg.refl [] w6
   have Z19 := F0_0_0
   have Z20 := F0_0
   have Z21 := F0_5
   have Z22 := F0
   have Z23 := F1
   have Z24 := F2
   refine wH_take [0] [0] [(43, .pointer (some ⟨b1, 2, none⟩))] (by kernel_rfl) (qT (qT qZ)) (by kernel_rfl) ?_
   refine wH_load1 (i := 1) (d := 44) (T := 4) (ad := ⟨b1, 2, none⟩) (v := .bool (p1_2)) (by kernel_rfl) (qT (qT qZ)) (by kernel_rfl) (by kernel_rfl) vt4 (fun W hW => (Z23.chg hW notNil).cell 2) ?_
   refine wH_take [2] [2, 1, 0] [(45, .pointer (some ⟨b2, 2, none⟩))] (by kernel_rfl) (qT (qT qZ)) (by kernel_rfl) ?_
   refine wH_load1 (i := 3) (d := 46) (T := 4) (ad := ⟨b2, 2, none⟩) (v := .bool (p2_2)) (by kernel_rfl) (qT (qT qZ)) (by kernel_rfl) (by kernel_rfl) vt4 (fun W hW => (Z24.chg hW notNil).cell 2) ?_
   refine wH_take [4, 5] [5, 4, 3, 2, 1, 0] [(48, .bool (!(p1_2 == p2_2))), (47, .bool (!(p1_2 == p2_2)))] (by kernel_rfl) (qT (qT qZ)) (by kernel_rfl) ?_
   refine wH_bool (!(p1_2 == p2_2)) (fun hb5 => ?_) (fun hb5 => ?_)
   ·have hm := condT hb5 hm
    rewrite [hb5]
    refine wH_take [6] [6, 5, 4, 3, 2, 1, 0] [(49, .pointer (some ⟨b1, 0, none⟩))] (by kernel_rfl) (qT (qT qZ)) (by kernel_rfl) ?_
    refine wH_loadA (i := 7) (d := 50) (T := 29) (ad := ⟨b1, 0, none⟩) (vs := [.int .i64 (p1_0), .int .i64 (p1_1)]) (by kernel_rfl) (qT (qT qZ)) (by kernel_rfl) (by kernel_rfl) vt29 (fun W hW i u hu => box_cells (Z23.chg hW notNil) 0 hu (by rfl)) ?_
    refine wH_take [8] [8, 7, 6, 5, 4, 3, 2, 1, 0] [(51, .pointer (some ⟨b2, 0, none⟩))] (by kernel_rfl) (qT (qT qZ)) (by kernel_rfl) ?_
    refine wH_loadA (i := 9) (d := 52) (T := 29) (ad := ⟨b2, 0, none⟩) (vs := [.int .i64 (p2_0), .int .i64 (p2_1)]) (by kernel_rfl) (qT (qT qZ)) (by kernel_rfl) (by kernel_rfl) vt29 (fun W hW i u hu => box_cells (Z24.chg hW notNil) 0 hu (by rfl)) ?_
    refine wH_eqS (i := 10) (d := 53) (T := 29) (x := p1_0) (y := p1_1) (x' := p2_0) (y' := p2_1) (by kernel_rfl) (qT (qT qZ)) (by kernel_rfl) (by kernel_rfl) eq29 ?_
    refine wH_take [11] [11, 10, 9, 8, 7, 6, 5, 4, 3, 2, 1, 0] [(54, .pointer (some ⟨b2, 2, none⟩))] (by kernel_rfl) (qT (qT qZ)) (by kernel_rfl) ?_
    refine wH_load1 (i := 12) (d := 55) (T := 4) (ad := ⟨b2, 2, none⟩) (v := .bool (p2_2)) (by kernel_rfl) (qT (qT qZ)) (by kernel_rfl) (by kernel_rfl) vt4 (fun W hW => (Z24.chg hW notNil).cell 2) ?_
    refine wH_done (by kernel_rfl) ?_
    refine eX_tail ?_
    refine wS_pure 3 [(6, .bool ((p1_0 == p2_0 && p1_1 == p2_1) == p2_2)), (57, .bool ((p1_0 == p2_0 && p1_1 == p2_1) == p2_2)), (56, .bool ((p1_0 == p2_0 && p1_1 == p2_1) == p2_2))] (by kernel_rfl) ?_
    refine wS_end (by rfl) ?_
    refine eX_then ?_
    refine cW_prune [(6, .bool ((p1_0 == p2_0 && p1_1 == p2_1) == p2_2))] (by kernel_rfl) (by kernel_rfl) (fun a4 => ?_)
    refine cW_ret ?_
    have hq : (some ((p1_0 == p2_0 && p1_1 == p2_1) == p2_2) : Option ((Bool))) = some _ := hm
    replace hq := someE hq
    subst hq
    refine eX_ret (vs := [.bool ((p1_0 == p2_0 && p1_1 == p2_1) == p2_2)]) [.tmp 6] (by rfl) ⟨by (show lkE _ _ _ = _); kernel_rfl, trivial⟩ ?_
    exact ⟨rfl, hB⟩
   ·have hm := condF hb5 hm
    rewrite [hb5]
    refine wH_take [6, 7, 8, 9, 10, 11, 12] [12, 11, 10, 9, 8, 7, 6, 5, 4, 3, 2, 1, 0] [(55, undef), (54, undef), (53, undef), (52, undef), (51, undef), (50, undef), (49, undef)] (by kernel_rfl) (qT (qT qZ)) (by kernel_rfl) ?_
    refine wH_done (by kernel_rfl) ?_
    refine eX_tail ?_
    refine wS_pure 3 [(6, .bool (false)), (57, .bool (false)), (56, undef)] (by kernel_rfl) ?_
    refine wS_end (by rfl) ?_
    refine eX_then ?_
    refine cW_prune [(6, .bool (false))] (by kernel_rfl) (by kernel_rfl) (fun a5 => ?_)
    refine cW_ret ?_
    have hq : (some false : Option ((Bool))) = some _ := hm
    replace hq := someE hq
    subst hq
    refine eX_ret (vs := [.bool (false)]) [.tmp 6] (by rfl) ⟨by (show lkE _ _ _ = _); kernel_rfl, trivial⟩ ?_
    exact ⟨rfl, hB⟩

set_option maxRecDepth 100000 in
/-- impl.flow).search -/
theorem c_impl_flow_search_bimplflow_bimplMaze {w0 : World} {l0_0_0 : List (List (Int))} {A0_0_0 : Option Addr} {cap0_0_0 : Nat} {fp0_0_0 : List Nat} {b0_0 : Nat} {q0_1 : Int} {q0_2 : Int} {q0_3 : Int} {q0_4 : Int} {l0_5 : List ((Int × Int × Bool × Int × Int × Bool) × Bool)} {b0_5 : Nat} {b0 : Nat} {r : (List ((Int × Int × Bool) × (Int × Int × Bool)))} (hm : m_impl_flow_search_bimplflow_bimplMaze l0_0_0 q0_1 q0_2 q0_3 q0_4 l0_5 = some r) (F0_0_0 : SlR 1 encI w0 fp0_0_0 A0_0_0 l0_0_0) (F0_0 : Cl w0 b0_0 26 [.slice A0_0_0 (l0_0_0).length cap0_0_0]) (F0_5 : Mp okIIBIIB ekIIBIIB vB w0 b0_5 l0_5) (F0 : Cl w0 b0 86 [.pointer (some ⟨b0_0, 0, none⟩), .int .i64 (q0_1), .int .i64 (q0_2), .int .i64 (q0_3), .int .i64 (q0_4), .map (some b0_5)]) :
  Calls Try.prog 47 #[.pointer (some ⟨b0, 0, none⟩)] w0 fun e w' => ∃ b100, e = .returned (.map (some b100)) ∧ Mp okIIB ekIIB ekIIB w' b100 r ∧ (∀ x ∈ [b100], w0.heap.size ≤ x) ∧ Chg [] w0 w' := by
 have L0_0_0 := F0_0_0.low
 have L0_0 := lt1 F0_0.lt
 have L0_5 := F0_5.low
 have L0 := lt1 F0.lt
 have hB : Chg [] w0 w0 := Chg.refl _ _
 have hZ := Nat.le_refl w0.heap.size
 unfold m_impl_flow_search_bimplflow_bimplMaze at hm
 refine enterE (N := 63) Try.func47 (by rfl) Try.ntmps47 (by simp) [(0, .pointer (some ⟨b0, 0, none⟩))] (by rfl) (by kernel_rfl) (fun a => ?_)
 refine cW_seq ?_
 refine cW_region ?_
 refine wS_pure 1 [(2, .map none)] (by kernel_rfl) ?_
 refine wS_end (by rfl) ?_
 refine eX_then ?_
 refine cW_seq ?_
 refine cW_region ?_
 refine wS_pure 3 [(12, .pointer (some ⟨b0, 1, none⟩)), (11, .pointer (some ⟨b0, 0, none⟩)), (10, .pointer (some ⟨b0, 0, none⟩))] (by kernel_rfl) ?_
 refine wS_loadA (d := 13) (T := 29) (ad := ⟨b0, 1, none⟩) (vs := [.int .i64 (q0_1), .int .i64 (q0_2)]) (by kernel_rfl) vt29 (fun i u hu => box_cells F0 1 hu (by rfl)) ?_
 refine wS_pure 1 [(14, .agg #[.int .i64 (q0_1), .int .i64 (q0_2), .bool (true)])] (by kernel_rfl) ?_
 refine wS_alloc (d := 3) (T := 92) (z := .agg #[.int .i64 (0), .int .i64 (0), .bool (false)]) (by kernel_rfl) (by kernel_rfl) ?_
 intro b1 w1 G1 F1 hc1
 replace F1 : Cl w1 b1 92 [.int .i64 (0), .int .i64 (0), .bool (false)] := F1
 replace F0_0_0 := F0_0_0.chg hc1 Dj.nil
 replace F0_0 := F0_0.chg hc1 notNil
 replace F0_5 := F0_5.chg hc1 Dj.nil
 replace F0 := F0.chg hc1 notNil
 replace hB := hB.inS hc1 inNil
 replace G1 := Nat.le_trans hZ G1
 replace hZ := Nat.le_trans hZ hc1.size
 refine wS_store (T := 92) (g := b1) (o := 0) (ad := ⟨b1, 0, none⟩) (v := .agg #[.int .i64 (q0_1), .int .i64 (q0_2), .bool (true)]) (vs := [.int .i64 (q0_1), .int .i64 (q0_2), .bool (true)]) (by kernel_rfl) (by rfl) sz92 (by rfl) (by rfl) F1 (by simp only [List.length_cons, List.length_nil]; omega) ?_
 intro w2 F2 hc2
 replace F0_0_0 := F0_0_0.chg hc2 (Dj.of L0_0_0 (low1 G1))
 replace F0_0 := F0_0.chg hc2 (dj1 (Dj.of L0_0 (low1 G1)))
 replace F0_5 := F0_5.chg hc2 (Dj.of L0_5 (low1 G1))
 replace F0 := F0.chg hc2 (dj1 (Dj.of L0 (low1 G1)))
 replace hB := hB.inS hc2 (inLow (low1 G1))
 replace hZ := Nat.le_trans hZ hc2.size
 replace F2 : Cl w2 b1 92 [.int .i64 (q0_1), .int .i64 (q0_2), .bool (true)] := F2
 clear F1
 refine wS_end (by rfl) ?_
 refine eX_then ?_
 refine cW_seq ?_
 refine cW_region ?_
 refine wS_makeMap (V := Int × Int × Bool) (d := 15) (T := 87) (by kernel_rfl) okIIB ekIIB ekIIB ?_
 intro b2 w3 G2 F3 hc3
 have D1 : Dj [b1] [b2] := Dj.of (lt1 F2.lt) (low1 G2)
 replace F0_0_0 := F0_0_0.chg hc3 Dj.nil
 replace F0_0 := F0_0.chg hc3 notNil
 replace F0_5 := F0_5.chg hc3 Dj.nil
 replace F0 := F0.chg hc3 notNil
 replace F2 := F2.chg hc3 notNil
 replace hB := hB.inS hc3 inNil
 replace G2 := Nat.le_trans hZ G2
 replace G2 := low1 G2
 replace hZ := Nat.le_trans hZ hc3.size
 refine wS_loadA (d := 16) (T := 92) (ad := ⟨b1, 0, none⟩) (vs := [.int .i64 (q0_1), .int .i64 (q0_2), .bool (true)]) (by kernel_rfl) vt92 (fun i u hu => box_cells F2 0 hu (by rfl)) ?_
 refine wS_loadA (d := 17) (T := 92) (ad := ⟨b1, 0, none⟩) (vs := [.int .i64 (q0_1), .int .i64 (q0_2), .bool (true)]) (by kernel_rfl) vt92 (fun i u hu => box_cells F2 0 hu (by rfl)) ?_
 obtain ⟨_, hk1, hm⟩ := bindE hm
 refine wS_mins (k := (q0_1, q0_2, true)) (x := (q0_1, q0_2, true)) (T := 87) (by kernel_rfl) rfl rfl mk87 mp87 F3 (mpE hk1) ?_
 intro w4 F4 hc4
 replace F0_0_0 := F0_0_0.chg hc4 (Dj.of L0_0_0 G2)
 replace F0_0 := F0_0.chg hc4 (dj1 (Dj.of L0_0 G2))
 replace F0_5 := F0_5.chg hc4 (Dj.of L0_5 G2)
 replace F0 := F0.chg hc4 (dj1 (Dj.of L0 G2))
 replace F2 := F2.chg hc4 (dj1 D1)
 replace hB := hB.inS hc4 (inLow G2)
 replace hZ := Nat.le_trans hZ hc4.size
 clear F3
 refine wS_pure 2 [(4, .map (some b2)), (18, .map (some b2))] (by kernel_rfl) ?_
 refine wS_end (by rfl) ?_
 refine eX_then ?_
 refine cW_seq ?_
 refine cW_seq ?_
 refine cW_region ?_
 refine wS_loadA (d := 19) (T := 92) (ad := ⟨b1, 0, none⟩) (vs := [.int .i64 (q0_1), .int .i64 (q0_2), .bool (true)]) (by kernel_rfl) vt92 (fun i u hu => box_cells F2 0 hu (by rfl)) ?_
 refine wS_bs (enc := encIIB) ([(q0_1, q0_2, true)] : List (Int × Int × Bool)) [.int .i64 (q0_1), .int .i64 (q0_2), .bool (true)] (d := 20) (t := 107) (T := 92) (n := 1) (ps := [(0, .agg #[.int .i64 (q0_1), .int .i64 (q0_2), .bool (true)])]) (by kernel_rfl) el107 encIIB_ok (by rfl) (by omega) (by omega) (by kernel_rfl) (by rfl) ?_
 intro b3 w5 G3 F5 hc5
 have D2 : Dj [b1] [b3] := Dj.of (lt1 F2.lt) (low1 G3)
 have D3 : Dj [b2] [b3] := Dj.of F4.low (low1 G3)
 replace F0_0_0 := F0_0_0.chg hc5 Dj.nil
 replace F0_0 := F0_0.chg hc5 notNil
 replace F0_5 := F0_5.chg hc5 Dj.nil
 replace F0 := F0.chg hc5 notNil
 replace F2 := F2.chg hc5 notNil
 replace F4 := F4.chg hc5 Dj.nil
 replace hB := hB.inS hc5 inNil
 replace G3 := Nat.le_trans hZ G3
 replace G3 := low1 G3
 replace hZ := Nat.le_trans hZ hc5.size
 refine wS_pure 1 [(5, .slice (some ⟨b3, 0, none⟩) (([(q0_1, q0_2, true)] : List (Int × Int × Bool))).length 1)] (by kernel_rfl) ?_
 refine wS_end (by rfl) ?_
 refine eX_then ?_
 obtain ⟨r1, hr1, hm⟩ := bindE hm
 have hm1 := hm
 refine cW_cut (fun a' w' => ∃ l1 : List ((Int × Int × Bool) × (Int × Int × Bool)), l1 = r1 ∧ Fr 63 [(4, .map (some b2))] a' ∧ Mp okIIB ekIIB ekIIB w' b2 l1 ∧ Chg [] w0 w' ∧ w0.heap.size ≤ w'.heap.size) ?_ ?_
 ·refine cW_block ?_
  refine cW_loop _ (fun (s1 : (List (Int × Int × Bool)) × (List ((Int × Int × Bool) × (Int × Int × Bool)))) a' w' => ∃ l3 : List (Int × Int × Bool), ∃ A1 : Option Addr, ∃ cap1 : Nat, ∃ fp1 : List Nat, ∃ l4 : List ((Int × Int × Bool) × (Int × Int × Bool)), (l3, l4) = s1 ∧ Fr 63 [(0, .pointer (some ⟨b0, 0, none⟩)), (4, .map (some b2)), (5, .slice A1 (l3).length cap1)] a' ∧ SlR 1 encI w' fp0_0_0 A0_0_0 l0_0_0 ∧ Cl w' b0_0 26 [.slice A0_0_0 (l0_0_0).length cap0_0_0] ∧ Mp okIIBIIB ekIIBIIB vB w' b0_5 l0_5 ∧ Cl w' b0 86 [.pointer (some ⟨b0_0, 0, none⟩), .int .i64 (q0_1), .int .i64 (q0_2), .int .i64 (q0_3), .int .i64 (q0_4), .map (some b0_5)] ∧ Mp okIIB ekIIB ekIIB w' b2 l4 ∧ OwO 3 encIIB 92 w' fp1 A1 cap1 l3 ∧ (∀ x ∈ fp1, w0.heap.size ≤ x) ∧ Dj [b2] fp1 ∧ Chg [] w0 w' ∧ w0.heap.size ≤ w'.heap.size) hr1 (fun hst => ⟨([(q0_1, q0_2, true)] : List (Int × Int × Bool)), (some ⟨b3, 0, none⟩), 1, [b3], mup (([] : List ((Int × Int × Bool) × (Int × Int × Bool)))) ((q0_1, q0_2, true)) ((q0_1, q0_2, true)), rfl, Fr.of hst (by kernel_rfl), F0_0_0, F0_0, F0_5, F0, F4, F5.off, G3, D3, hB, hZ⟩) ?_
  rintro _ c1 a' w6 ⟨l3, A1, cap1, fp1, l4, rfl, hF1, F6, F7, F8, F9, F10, F11, G4, D4, hB, hZ⟩ hx1
  refine Fr.goOn hF1 (by kernel_rfl) ?_
  have hm := hx1
  unfold m_impl_flow_search_bimplflow_bimplMaze_s3 at hm
  refine cW_seq ?_
  refine cW_seq ?_
  refine cW_region ?_
  refine wS_pure 3 [(23, .bool (decide ((((l3).length : Int)) > 0))), (22, .int .i64 (((l3).length : Int))), (21, .slice A1 (l3).length cap1)] (by kernel_rfl) ?_
  refine wS_end (by rfl) ?_
  refine eX_then ?_
  refine cW_cond (t := decide ((((l3).length : Int)) > 0)) (by kernel_rfl) (fun hb1 => ?_) (fun hb1 => ?_)
  ·have hm := condT hb1 hm
   refine cW_skip ?_
   refine eX_then ?_
   refine cW_seq ?_
   refine cW_block ?_
   refine cW_seq ?_
   refine cW_region ?_
   refine wS_pure 2 [(27, .slice A1 (l3).length cap1), (26, .pointer (some ⟨b0, 0, none⟩))] (by kernel_rfl) ?_
   obtain ⟨x1, hx2, hm⟩ := bindE hm
   refine wS_idx (d := 28) (T := 107) (A := A1) (n := (l3).length) (cap := cap1) (kd := .i64) (m := 0) (by kernel_rfl) sl107 ((F11.sl encIIB_ok).is hx2) ?_
   refine wS_loadA (d := 29) (T := 92) (ad := (elA A1 3 (0) 0)) (vs := [.int .i64 (x1.1), .int .i64 (x1.2.1), .bool (x1.2.2)]) (by kernel_rfl) vt92 (fun i u hu => Sl.cells_at (F11.sl encIIB_ok) hx2 0 hu (by rfl)) ?_
   obtain ⟨y1, hy1, hm⟩ := bindE hm
   refine wS_calls (d := 30) (f := 66) (vs := [.pointer (some ⟨b0, 0, none⟩), .agg #[.int .i64 (x1.1), .int .i64 (x1.2.1), .bool (x1.2.2)]]) (by kernel_rfl) ent66 (c_impl_flow_beside_bimplflow_bimplMaze hy1 F6 F7 F8 F9) ?_
   rintro _ w7 ⟨A3, cap3, fp2, rfl, F12, G5, hc6⟩
   have D5 : Dj [b2] fp2 := Dj.of F10.low G5
   have D6 : Dj fp1 fp2 := Dj.of F11.low G5
   replace F6 := F6.chg hc6 Dj.nil
   replace F7 := F7.chg hc6 notNil
   replace F8 := F8.chg hc6 Dj.nil
   replace F9 := F9.chg hc6 notNil
   replace F10 := F10.chg hc6 Dj.nil
   replace F11 := F11.chg hc6 Dj.nil
   replace hB := hB.inS hc6 inNil
   replace G5 := low_le hZ G5
   replace hZ := Nat.le_trans hZ hc6.size
   refine ⟨.slice A3 (y1).length cap3, rfl, ?_⟩
   refine wS_pure 2 [(32, .int .i64 (0)), (31, .int .i64 (((y1).length : Int)))] (by kernel_rfl) ?_
   refine wS_end (by rfl) ?_
   refine eX_then ?_
   obtain ⟨r2, hr2, hm⟩ := bindE hm
   have hm2 := hm
   refine cW_cut (fun a' w' => ∃ l5 : List (Int × Int × Bool), ∃ A4 : Option Addr, ∃ cap4 : Nat, ∃ fp3 : List Nat, ∃ l6 : List ((Int × Int × Bool) × (Int × Int × Bool)), (l5, l6) = r2 ∧ Fr 63 [(0, .pointer (some ⟨b0, 0, none⟩)), (4, .map (some b2)), (5, .slice A4 (l5).length cap4)] a' ∧ SlR 1 encI w' fp0_0_0 A0_0_0 l0_0_0 ∧ Cl w' b0_0 26 [.slice A0_0_0 (l0_0_0).length cap0_0_0] ∧ Mp okIIBIIB ekIIBIIB vB w' b0_5 l0_5 ∧ Cl w' b0 86 [.pointer (some ⟨b0_0, 0, none⟩), .int .i64 (q0_1), .int .i64 (q0_2), .int .i64 (q0_3), .int .i64 (q0_4), .map (some b0_5)] ∧ Mp okIIB ekIIB ekIIB w' b2 l6 ∧ OwO 3 encIIB 92 w' fp3 A4 cap4 l5 ∧ (∀ x ∈ fp3, w0.heap.size ≤ x) ∧ Dj [b2] fp3 ∧ Chg [] w0 w' ∧ w0.heap.size ≤ w'.heap.size) ?_ ?_
   ·refine cW_block ?_
    refine cW_loop _ (fun (s2 : (List (Int × Int × Bool)) × Int × (List ((Int × Int × Bool) × (Int × Int × Bool)))) a' w' => ∃ l7 : List (Int × Int × Bool), ∃ A5 : Option Addr, ∃ cap5 : Nat, ∃ fp4 : List Nat, ∃ x2 : Int, ∃ l8 : List ((Int × Int × Bool) × (Int × Int × Bool)), (l7, x2, l8) = s2 ∧ Fr 63 [(0, .pointer (some ⟨b0, 0, none⟩)), (4, .map (some b2)), (5, .slice A5 (l7).length cap5), (30, .slice A3 (y1).length cap3), (31, .int .i64 (((y1).length : Int))), (32, .int .i64 (x2))] a' ∧ SlR 1 encI w' fp0_0_0 A0_0_0 l0_0_0 ∧ Cl w' b0_0 26 [.slice A0_0_0 (l0_0_0).length cap0_0_0] ∧ Mp okIIBIIB ekIIBIIB vB w' b0_5 l0_5 ∧ Cl w' b0 86 [.pointer (some ⟨b0_0, 0, none⟩), .int .i64 (q0_1), .int .i64 (q0_2), .int .i64 (q0_3), .int .i64 (q0_4), .map (some b0_5)] ∧ Mp okIIB ekIIB ekIIB w' b2 l8 ∧ Ow 3 encIIB 92 w' fp2 A3 cap3 y1 ∧ OwO 3 encIIB 92 w' fp4 A5 cap5 l7 ∧ (∀ x ∈ fp4, w0.heap.size ≤ x) ∧ Dj [b2] fp4 ∧ Dj fp2 fp4 ∧ Chg [] w0 w' ∧ w0.heap.size ≤ w'.heap.size) hr2 (fun hst => ⟨l3, A1, cap1, fp1, 0, l4, rfl, Fr.of hst (by kernel_rfl), F6, F7, F8, F9, F10, F12, F11, G4, D4, (D6).symm, hB, hZ⟩) ?_
    rintro _ c2 a' w8 ⟨l7, A5, cap5, fp4, x2, l8, rfl, hF2, F13, F14, F15, F16, F17, F18, F19, G6, D7, D8, hB, hZ⟩ hx3
    refine Fr.goOn hF2 (by kernel_rfl) ?_
    have hm := hx3
    unfold m_impl_flow_search_bimplflow_bimplMaze_s4 at hm
    refine cW_seq ?_
    refine cW_region ?_
    refine wS_pure 1 [(33, .bool (decide (x2 < (((y1).length : Int)))))] (by kernel_rfl) ?_
    refine wS_end (by rfl) ?_
    refine eX_then ?_
    refine cW_seq ?_
    refine cW_cond (t := decide (x2 < (((y1).length : Int)))) (by kernel_rfl) (fun hb2 => ?_) (fun hb2 => ?_)
    ·have hm := condT hb2 hm
     refine cW_skip ?_
     refine eX_then ?_
     refine cW_seq ?_
     refine cW_block ?_
     obtain ⟨s3, hs1, hm⟩ := bindE hm
     refine cW_cut (fun a' w' => ∃ l9 : List (Int × Int × Bool), ∃ A6 : Option Addr, ∃ cap6 : Nat, ∃ fp5 : List Nat, ∃ l10 : List ((Int × Int × Bool) × (Int × Int × Bool)), (l9, l10) = s3 ∧ Fr 63 [(0, .pointer (some ⟨b0, 0, none⟩)), (4, .map (some b2)), (5, .slice A6 (l9).length cap6), (30, .slice A3 (y1).length cap3), (31, .int .i64 (((y1).length : Int))), (32, .int .i64 (x2))] a' ∧ SlR 1 encI w' fp0_0_0 A0_0_0 l0_0_0 ∧ Cl w' b0_0 26 [.slice A0_0_0 (l0_0_0).length cap0_0_0] ∧ Mp okIIBIIB ekIIBIIB vB w' b0_5 l0_5 ∧ Cl w' b0 86 [.pointer (some ⟨b0_0, 0, none⟩), .int .i64 (q0_1), .int .i64 (q0_2), .int .i64 (q0_3), .int .i64 (q0_4), .map (some b0_5)] ∧ Mp okIIB ekIIB ekIIB w' b2 l10 ∧ Ow 3 encIIB 92 w' fp2 A3 cap3 y1 ∧ OwO 3 encIIB 92 w' fp5 A6 cap6 l9 ∧ (∀ x ∈ fp5, w0.heap.size ≤ x) ∧ Dj [b2] fp5 ∧ Dj fp2 fp5 ∧ Chg [] w0 w' ∧ w0.heap.size ≤ w'.heap.size) ?_ ?_
     ·have hm := hs1
      refine cW_seq ?_
      refine cW_region ?_
      obtain ⟨x3, hx4, hm⟩ := bindE hm
      refine wS_idx (d := 34) (T := 107) (A := A3) (n := (y1).length) (cap := cap3) (kd := .i64) (m := x2) (by kernel_rfl) sl107 ((F18.sl encIIB_ok).is hx4) ?_
      refine wS_loadA (d := 35) (T := 92) (ad := (elA A3 3 (x2) 0)) (vs := [.int .i64 (x3.1), .int .i64 (x3.2.1), .bool (x3.2.2)]) (by kernel_rfl) vt92 (fun i u hu => Sl.cells_at (F18.sl encIIB_ok) hx4 0 hu (by rfl)) ?_
      refine wS_alloc (d := 7) (T := 92) (z := .agg #[.int .i64 (0), .int .i64 (0), .bool (false)]) (by kernel_rfl) (by kernel_rfl) ?_
      intro b4 w9 G7 F20 hc7
      replace F20 : Cl w9 b4 92 [.int .i64 (0), .int .i64 (0), .bool (false)] := F20
      have D9 : Dj [b2] [b4] := Dj.of F17.low (low1 G7)
      have D10 : Dj fp2 [b4] := Dj.of F18.low (low1 G7)
      have D11 : Dj fp4 [b4] := Dj.of F19.low (low1 G7)
      replace F13 := F13.chg hc7 Dj.nil
      replace F14 := F14.chg hc7 notNil
      replace F15 := F15.chg hc7 Dj.nil
      replace F16 := F16.chg hc7 notNil
      replace F17 := F17.chg hc7 Dj.nil
      replace F18 := F18.chg hc7 Dj.nil
      replace F19 := F19.chg hc7 Dj.nil
      replace hB := hB.inS hc7 inNil
      replace G7 := Nat.le_trans hZ G7
      replace hZ := Nat.le_trans hZ hc7.size
      refine wS_store (T := 92) (g := b4) (o := 0) (ad := ⟨b4, 0, none⟩) (v := .agg #[.int .i64 (x3.1), .int .i64 (x3.2.1), .bool (x3.2.2)]) (vs := [.int .i64 (x3.1), .int .i64 (x3.2.1), .bool (x3.2.2)]) (by kernel_rfl) (by rfl) sz92 (by rfl) (by rfl) F20 (by simp only [List.length_cons, List.length_nil]; omega) ?_
      intro w10 F21 hc8
      replace F13 := F13.chg hc8 (Dj.of L0_0_0 (low1 G7))
      replace F14 := F14.chg hc8 (dj1 (Dj.of L0_0 (low1 G7)))
      replace F15 := F15.chg hc8 (Dj.of L0_5 (low1 G7))
      replace F16 := F16.chg hc8 (dj1 (Dj.of L0 (low1 G7)))
      replace F17 := F17.chg hc8 D9
      replace F18 := F18.chg hc8 D10
      replace F19 := F19.chg hc8 D11
      replace hB := hB.inS hc8 (inLow (low1 G7))
      replace hZ := Nat.le_trans hZ hc8.size
      replace F21 : Cl w10 b4 92 [.int .i64 (x3.1), .int .i64 (x3.2.1), .bool (x3.2.2)] := F21
      clear F20
      refine wS_end (by rfl) ?_
      refine eX_then ?_
      refine cW_seq ?_
      refine cW_region ?_
      refine wS_pure 1 [(37, .map (some b2))] (by kernel_rfl) ?_
      refine wS_loadA (d := 38) (T := 92) (ad := ⟨b4, 0, none⟩) (vs := [.int .i64 (x3.1), .int .i64 (x3.2.1), .bool (x3.2.2)]) (by kernel_rfl) vt92 (fun i u hu => box_cells F21 0 hu (by rfl)) ?_
      obtain ⟨_, hk2, hm⟩ := bindE hm
      refine wS_lookOk (k := (x3.1, x3.2.1, x3.2.2)) (d := 39) (T := 87) (by kernel_rfl) rfl mk87 mp87 F17 (mpE hk2) ?_
      refine wS_pure 3 [(41, .bool ((mget l8 ((x3.1, x3.2.1, x3.2.2))).isSome)), (40, .agg #[.int .i64 (((mget l8 ((x3.1, x3.2.1, x3.2.2))).getD (0, 0, false)).1), .int .i64 (((mget l8 ((x3.1, x3.2.1, x3.2.2))).getD (0, 0, false)).2.1), .bool (((mget l8 ((x3.1, x3.2.1, x3.2.2))).getD (0, 0, false)).2.2)]), (36, .tuple #[.agg #[.int .i64 (((mget l8 ((x3.1, x3.2.1, x3.2.2))).getD (0, 0, false)).1), .int .i64 (((mget l8 ((x3.1, x3.2.1, x3.2.2))).getD (0, 0, false)).2.1), .bool (((mget l8 ((x3.1, x3.2.1, x3.2.2))).getD (0, 0, false)).2.2)], .bool ((mget l8 ((x3.1, x3.2.1, x3.2.2))).isSome)])] (by kernel_rfl) ?_
      refine wS_alloc (d := 8) (T := 92) (z := .agg #[.int .i64 (0), .int .i64 (0), .bool (false)]) (by kernel_rfl) (by kernel_rfl) ?_
      intro b5 w11 G8 F22 hc9
      replace F22 : Cl w11 b5 92 [.int .i64 (0), .int .i64 (0), .bool (false)] := F22
      have D12 : Dj [b2] [b5] := Dj.of F17.low (low1 G8)
      have D13 : Dj fp2 [b5] := Dj.of F18.low (low1 G8)
      have D14 : Dj fp4 [b5] := Dj.of F19.low (low1 G8)
      have D15 : Dj [b4] [b5] := Dj.of (lt1 F21.lt) (low1 G8)
      replace F13 := F13.chg hc9 Dj.nil
      replace F14 := F14.chg hc9 notNil
      replace F15 := F15.chg hc9 Dj.nil
      replace F16 := F16.chg hc9 notNil
      replace F17 := F17.chg hc9 Dj.nil
      replace F18 := F18.chg hc9 Dj.nil
      replace F19 := F19.chg hc9 Dj.nil
      replace F21 := F21.chg hc9 notNil
      replace hB := hB.inS hc9 inNil
      replace G8 := Nat.le_trans hZ G8
      replace hZ := Nat.le_trans hZ hc9.size
      refine wS_store (T := 92) (g := b5) (o := 0) (ad := ⟨b5, 0, none⟩) (v := .agg #[.int .i64 (((mget l8 ((x3.1, x3.2.1, x3.2.2))).getD (0, 0, false)).1), .int .i64 (((mget l8 ((x3.1, x3.2.1, x3.2.2))).getD (0, 0, false)).2.1), .bool (((mget l8 ((x3.1, x3.2.1, x3.2.2))).getD (0, 0, false)).2.2)]) (vs := [.int .i64 (((mget l8 ((x3.1, x3.2.1, x3.2.2))).getD (0, 0, false)).1), .int .i64 (((mget l8 ((x3.1, x3.2.1, x3.2.2))).getD (0, 0, false)).2.1), .bool (((mget l8 ((x3.1, x3.2.1, x3.2.2))).getD (0, 0, false)).2.2)]) (by kernel_rfl) (by rfl) sz92 (by rfl) (by rfl) F22 (by simp only [List.length_cons, List.length_nil]; omega) ?_
      intro w12 F23 hc10
      replace F13 := F13.chg hc10 (Dj.of L0_0_0 (low1 G8))
      replace F14 := F14.chg hc10 (dj1 (Dj.of L0_0 (low1 G8)))
      replace F15 := F15.chg hc10 (Dj.of L0_5 (low1 G8))
      replace F16 := F16.chg hc10 (dj1 (Dj.of L0 (low1 G8)))
      replace F17 := F17.chg hc10 D12
      replace F18 := F18.chg hc10 D13
      replace F19 := F19.chg hc10 D14
      replace F21 := F21.chg hc10 (dj1 D15)
      replace hB := hB.inS hc10 (inLow (low1 G8))
      replace hZ := Nat.le_trans hZ hc10.size
      replace F23 : Cl w12 b5 92 [.int .i64 (((mget l8 ((x3.1, x3.2.1, x3.2.2))).getD (0, 0, false)).1), .int .i64 (((mget l8 ((x3.1, x3.2.1, x3.2.2))).getD (0, 0, false)).2.1), .bool (((mget l8 ((x3.1, x3.2.1, x3.2.2))).getD (0, 0, false)).2.2)] := F23
      clear F22
      refine wS_pure 1 [(9, .bool ((mget l8 ((x3.1, x3.2.1, x3.2.2))).isSome))] (by kernel_rfl) ?_
      refine wS_end (by rfl) ?_
      refine eX_then ?_
      refine cW_seq ?_
      refine cW_drawnTail [] 8 (by kernel_rfl) (by kernel_rfl) (fun w13 hc11 => ?_)
      replace F13 := F13.chg hc11 Dj.nil
      replace F14 := F14.chg hc11 notNil
      replace F15 := F15.chg hc11 Dj.nil
      replace F16 := F16.chg hc11 notNil
      replace F17 := F17.chg hc11 Dj.nil
      replace F18 := F18.chg hc11 Dj.nil
      replace F19 := F19.chg hc11 Dj.nil
      replace F21 := F21.chg hc11 notNil
      replace F23 := F23.chg hc11 notNil
      replace hB := hB.inS hc11 inNil
      replace hZ := Nat.le_trans hZ hc11.size
      have hS := Chg.refl [] w13
      have Z1 := F13
      have Z2 := F14
      have Z3 := F15
      have Z4 := F16
      have Z5 := F17
      have Z6 := F18
      have Z7 := F19
      have Z8 := F21
      have Z9 := F23
      refine wH_take [0, 1, 2] [2, 1, 0] [(44, .bool (!((mget l8 ((x3.1, x3.2.1, x3.2.2))).isSome))), (43, .bool (!((mget l8 ((x3.1, x3.2.1, x3.2.2))).isSome))), (42, .bool ((mget l8 ((x3.1, x3.2.1, x3.2.2))).isSome))] (by kernel_rfl) (qT (qT (qT (qB (qT (qL (qB (qT (qB (qT (qL (qB (qT (qT qZ)))))))))))))) (by kernel_rfl) ?_
      refine wH_bool (!((mget l8 ((x3.1, x3.2.1, x3.2.2))).isSome)) (fun hb3 => ?_) (fun hb3 => ?_)
      ·have hm := condT hb3 hm
       rewrite [hb3]
       refine wH_take [3, 4] [4, 3, 2, 1, 0] [(46, .slice A5 (l7).length cap5), (45, .pointer (some ⟨b0, 0, none⟩))] (by kernel_rfl) (qT (qT (qT (qB (qT (qL (qB (qT (qB (qT (qL (qB (qT (qT qZ)))))))))))))) (by kernel_rfl) ?_
       obtain ⟨x4, hx5, hm⟩ := bindE hm
       refine wH_idx (i := 5) (d := 47) (T := 107) (A := A5) (n := (l7).length) (cap := cap5) (kd := .i64) (m := 0) (by kernel_rfl) (qT (qT (qT (qB (qT (qL (qB (qT (qB (qT (qL (qB (qT (qT qZ)))))))))))))) (by kernel_rfl) (by kernel_rfl) sl107 ((F19.sl encIIB_ok).is hx5) ?_
       refine wH_loadA (i := 6) (d := 48) (T := 92) (ad := (elA A5 3 (0) 0)) (vs := [.int .i64 (x4.1), .int .i64 (x4.2.1), .bool (x4.2.2)]) (by kernel_rfl) (qT (qT (qT (qB (qT (qL (qB (qT (qB (qT (qL (qB (qT (qT qZ)))))))))))))) (by kernel_rfl) (by kernel_rfl) vt92 (fun W hW i u hu => Sl.cells_at ((Z7.chg hW Dj.nil).sl encIIB_ok) hx5 0 hu (by rfl)) ?_
       refine wH_loadA (i := 7) (d := 49) (T := 92) (ad := ⟨b4, 0, none⟩) (vs := [.int .i64 (x3.1), .int .i64 (x3.2.1), .bool (x3.2.2)]) (by kernel_rfl) (qT (qT (qT (qB (qT (qL (qB (qT (qB (qT (qL (qB (qT (qT qZ)))))))))))))) (by kernel_rfl) (by kernel_rfl) vt92 (fun W hW i u hu => box_cells (Z8.chg hW notNil) 0 hu (by rfl)) ?_
       refine wH_done (by kernel_rfl) ?_
       refine eX_tail ?_
       obtain ⟨y2, hy2, hm⟩ := bindE hm
       refine wS_calls (d := 50) (f := 67) (vs := [.pointer (some ⟨b0, 0, none⟩), .agg #[.int .i64 (x4.1), .int .i64 (x4.2.1), .bool (x4.2.2)], .agg #[.int .i64 (x3.1), .int .i64 (x3.2.1), .bool (x3.2.2)]]) (by kernel_rfl) ent67 (c_impl_flow_room_bimplflow_bimplMaze hy2 F13 F14 F15 F16) ?_
       rintro _ w14 ⟨rfl, hc12⟩
       replace F13 := F13.chg hc12 Dj.nil
       replace F14 := F14.chg hc12 notNil
       replace F15 := F15.chg hc12 Dj.nil
       replace F16 := F16.chg hc12 notNil
       replace F17 := F17.chg hc12 Dj.nil
       replace F18 := F18.chg hc12 Dj.nil
       replace F19 := F19.chg hc12 Dj.nil
       replace F21 := F21.chg hc12 notNil
       replace F23 := F23.chg hc12 notNil
       replace hB := hB.inS hc12 inNil
       replace hZ := Nat.le_trans hZ hc12.size
       refine ⟨.bool (y2), rfl, ?_⟩
       refine wS_pure 1 [(51, .bool (y2))] (by kernel_rfl) ?_
       refine wS_end (by rfl) ?_
       refine eX_then ?_
       refine cW_prune [(0, .pointer (some ⟨b0, 0, none⟩)), (4, .map (some b2)), (5, .slice A5 (l7).length cap5), (7, .pointer (some ⟨b4, 0, none⟩)), (30, .slice A3 (y1).length cap3), (31, .int .i64 (((y1).length : Int))), (32, .int .i64 (x2)), (51, .bool (y2))] (by kernel_rfl) (by kernel_rfl) (fun a1 => ?_)
       refine cW_cond (t := y2) (by kernel_rfl) (fun hb4 => ?_) (fun hb4 => ?_)
       ·have hm := condT hb4 hm
        refine cW_seq ?_
        refine cW_drawnTail [] 5 (by kernel_rfl) (by kernel_rfl) (fun w15 hc13 => ?_)
        replace F13 := F13.chg hc13 Dj.nil
        replace F14 := F14.chg hc13 notNil
        replace F15 := F15.chg hc13 Dj.nil
        replace F16 := F16.chg hc13 notNil
        replace F17 := F17.chg hc13 Dj.nil
        replace F18 := F18.chg hc13 Dj.nil
        replace F19 := F19.chg hc13 Dj.nil
        replace F21 := F21.chg hc13 notNil
        replace F23 := F23.chg hc13 notNil
        replace hB := hB.inS hc13 inNil
        replace hZ := Nat.le_trans hZ hc13.size
        have hS := Chg.refl [] w15
        have Z10 := F13
        have Z11 := F14
        have Z12 := F15
        have Z13 := F16
        have Z14 := F17
        have Z15 := F18
        have Z16 := F19
        have Z17 := F21
        have Z18 := F23
        refine wH_take [0] [0] [(52, .map (some b2))] (by kernel_rfl) (qT (qT (qT (qB (qT (qL (qB (qT (qB (qT (qL (qB (qT (qT qZ)))))))))))))) (by kernel_rfl) ?_
        refine wH_loadA (i := 1) (d := 53) (T := 92) (ad := ⟨b4, 0, none⟩) (vs := [.int .i64 (x3.1), .int .i64 (x3.2.1), .bool (x3.2.2)]) (by kernel_rfl) (qT (qT (qT (qB (qT (qL (qB (qT (qB (qT (qL (qB (qT (qT qZ)))))))))))))) (by kernel_rfl) (by kernel_rfl) vt92 (fun W hW i u hu => box_cells (Z17.chg hW notNil) 0 hu (by rfl)) ?_
        refine wH_take [2] [2, 1, 0] [(54, .slice A5 (l7).length cap5)] (by kernel_rfl) (qT (qT (qT (qB (qT (qL (qB (qT (qB (qT (qL (qB (qT (qT qZ)))))))))))))) (by kernel_rfl) ?_
        obtain ⟨x5, hx6, hm⟩ := bindE hm
        refine wH_idx (i := 3) (d := 55) (T := 107) (A := A5) (n := (l7).length) (cap := cap5) (kd := .i64) (m := 0) (by kernel_rfl) (qT (qT (qT (qB (qT (qL (qB (qT (qB (qT (qL (qB (qT (qT qZ)))))))))))))) (by kernel_rfl) (by kernel_rfl) sl107 ((F19.sl encIIB_ok).is hx6) ?_
        refine wH_loadA (i := 4) (d := 56) (T := 92) (ad := (elA A5 3 (0) 0)) (vs := [.int .i64 (x5.1), .int .i64 (x5.2.1), .bool (x5.2.2)]) (by kernel_rfl) (qT (qT (qT (qB (qT (qL (qB (qT (qB (qT (qL (qB (qT (qT qZ)))))))))))))) (by kernel_rfl) (by kernel_rfl) vt92 (fun W hW i u hu => Sl.cells_at ((Z16.chg hW Dj.nil).sl encIIB_ok) hx6 0 hu (by rfl)) ?_
        refine wH_done (by kernel_rfl) ?_
        refine eX_tail ?_
        obtain ⟨_, hk3, hm⟩ := bindE hm
        refine wS_mup (k := (x3.1, x3.2.1, x3.2.2)) (x := (x5.1, x5.2.1, x5.2.2)) (T := 87) (by kernel_rfl) rfl rfl mk87 mp87 F17 (mpE hk3) ?_
        intro w16 F24 hc14
        replace F13 := F13.chg hc14 (Dj.of L0_0_0 G2)
        replace F14 := F14.chg hc14 (dj1 (Dj.of L0_0 G2))
        replace F15 := F15.chg hc14 (Dj.of L0_5 G2)
        replace F16 := F16.chg hc14 (dj1 (Dj.of L0 G2))
        replace F18 := F18.chg hc14 (D5).symm
        replace F19 := F19.chg hc14 (D7).symm
        replace F21 := F21.chg hc14 (dj1 (D9).symm)
        replace F23 := F23.chg hc14 (dj1 (D12).symm)
        replace hB := hB.inS hc14 (inLow G2)
        replace hZ := Nat.le_trans hZ hc14.size
        clear F17
        refine wS_end (by rfl) ?_
        refine eX_then ?_
        refine cW_region ?_
        refine wS_pure 1 [(57, .slice A5 (l7).length cap5)] (by kernel_rfl) ?_
        refine wS_loadA (d := 58) (T := 92) (ad := ⟨b4, 0, none⟩) (vs := [.int .i64 (x3.1), .int .i64 (x3.2.1), .bool (x3.2.2)]) (by kernel_rfl) vt92 (fun i u hu => box_cells F21 0 hu (by rfl)) ?_
        refine wS_bs (enc := encIIB) ([(x3.1, x3.2.1, x3.2.2)] : List (Int × Int × Bool)) [.int .i64 (x3.1), .int .i64 (x3.2.1), .bool (x3.2.2)] (d := 59) (t := 107) (T := 92) (n := 1) (ps := [(0, .agg #[.int .i64 (x3.1), .int .i64 (x3.2.1), .bool (x3.2.2)])]) (by kernel_rfl) el107 encIIB_ok (by rfl) (by omega) (by omega) (by kernel_rfl) (by rfl) ?_
        intro b6 w17 G9 F25 hc15
        have D16 : Dj [b2] [b6] := Dj.of F24.low (low1 G9)
        have D17 : Dj fp2 [b6] := Dj.of F18.low (low1 G9)
        have D18 : Dj fp4 [b6] := Dj.of F19.low (low1 G9)
        have D19 : Dj [b4] [b6] := Dj.of (lt1 F21.lt) (low1 G9)
        have D20 : Dj [b5] [b6] := Dj.of (lt1 F23.lt) (low1 G9)
        replace F13 := F13.chg hc15 Dj.nil
        replace F14 := F14.chg hc15 notNil
        replace F15 := F15.chg hc15 Dj.nil
        replace F16 := F16.chg hc15 notNil
        replace F24 := F24.chg hc15 Dj.nil
        replace F18 := F18.chg hc15 Dj.nil
        replace F19 := F19.chg hc15 Dj.nil
        replace F21 := F21.chg hc15 notNil
        replace F23 := F23.chg hc15 notNil
        replace hB := hB.inS hc15 inNil
        replace G9 := Nat.le_trans hZ G9
        replace G9 := low1 G9
        replace hZ := Nat.le_trans hZ hc15.size
        obtain ⟨_, hk4, hm⟩ := bindE hm
        replace hk4 := apE hk4
        refine wS_appendO (enc := encIIB) (l := (l7 : List (Int × Int × Bool))) (l2 := (([(x3.1, x3.2.1, x3.2.2)] : List (Int × Int × Bool)) : List (Int × Int × Bool))) (d := 60) (t := 107) (T := 92) (A := A5) (A2 := (some ⟨b6, 0, none⟩)) (cap := cap5) (cap2 := 1) (by kernel_rfl) el107 encIIB_ok F19 (F25.sl encIIB_ok) hk4 ?_
        intro w18 fp6 A7 cap7 F26 hc16 hp1
        have G10 := low_ap G6 hZ hp1
        have D21 : Dj [b2] fp6 := Dj.ap D7 F24.low hp1
        have D22 : Dj fp2 fp6 := Dj.ap D8 F18.low hp1
        have D23 : Dj [b4] fp6 := Dj.ap (D11).symm (lt1 F21.lt) hp1
        have D24 : Dj [b5] fp6 := Dj.ap (D14).symm (lt1 F23.lt) hp1
        have D25 : Dj [b6] fp6 := Dj.ap (D18).symm F25.low hp1
        replace F13 := F13.chg hc16 (Dj.of L0_0_0 G6)
        replace F14 := F14.chg hc16 (dj1 (Dj.of L0_0 G6))
        replace F15 := F15.chg hc16 (Dj.of L0_5 G6)
        replace F16 := F16.chg hc16 (dj1 (Dj.of L0 G6))
        replace F24 := F24.chg hc16 D7
        replace F18 := F18.chg hc16 D8
        replace F21 := F21.chg hc16 (dj1 (D11).symm)
        replace F23 := F23.chg hc16 (dj1 (D14).symm)
        replace F25 := F25.chg hc16 (D18).symm
        replace hB := hB.inS hc16 (inLow G6)
        replace hZ := Nat.le_trans hZ hc16.size
        refine wS_pure 1 [(5, .slice A7 (l7 ++ (([(x3.1, x3.2.1, x3.2.2)] : List (Int × Int × Bool)))).length cap7)] (by kernel_rfl) ?_
        refine wS_end (by rfl) ?_
        have hq : (some ((l7 ++ (([(x3.1, x3.2.1, x3.2.2)] : List (Int × Int × Bool))), mup l8 ((x3.1, x3.2.1, x3.2.2)) ((x5.1, x5.2.1, x5.2.2)))) : Option ((List (Int × Int × Bool)) × (List ((Int × Int × Bool) × (Int × Int × Bool))))) = some _ := hm
        replace hq := someE hq
        subst hq
        exact eX_J (fun hst => ⟨l7 ++ (([(x3.1, x3.2.1, x3.2.2)] : List (Int × Int × Bool))), A7, cap7, fp6, mup l8 ((x3.1, x3.2.1, x3.2.2)) ((x5.1, x5.2.1, x5.2.2)), rfl, Fr.of hst (by kernel_rfl), F13, F14, F15, F16, F24, F18, F26, G10, D21, D22, hB, hZ⟩)
       ·have hm := condF hb4 hm
        refine cW_skip ?_
        have hq : (some ((l7, l8)) : Option ((List (Int × Int × Bool)) × (List ((Int × Int × Bool) × (Int × Int × Bool))))) = some _ := hm
        replace hq := someE hq
        subst hq
        exact eX_J (fun hst => ⟨l7, A5, cap5, fp4, l8, rfl, Fr.of hst (by kernel_rfl), F13, F14, F15, F16, F17, F18, F19, G6, D7, D8, hB, hZ⟩)
      ·have hm := condF hb3 hm
       rewrite [hb3]
       refine wH_take [3, 4, 5, 6, 7] [7, 6, 5, 4, 3, 2, 1, 0] [(49, undef), (48, undef), (47, undef), (46, undef), (45, undef)] (by kernel_rfl) (qT (qT (qT (qB (qT (qL (qB (qT (qB (qT (qL (qB (qT (qT qZ)))))))))))))) (by kernel_rfl) ?_
       refine wH_done (by kernel_rfl) ?_
       refine eX_tail ?_
       refine wS_pure 2 [(51, .bool (false)), (50, undef)] (by kernel_rfl) ?_
       refine wS_end (by rfl) ?_
       refine eX_then ?_
       refine cW_prune [(0, .pointer (some ⟨b0, 0, none⟩)), (4, .map (some b2)), (5, .slice A5 (l7).length cap5), (7, .pointer (some ⟨b4, 0, none⟩)), (30, .slice A3 (y1).length cap3), (31, .int .i64 (((y1).length : Int))), (32, .int .i64 (x2)), (51, .bool (false))] (by kernel_rfl) (by kernel_rfl) (fun a2 => ?_)
       refine cW_cond_f (by kernel_rfl) ?_
       refine cW_skip ?_
       have hq : (some ((l7, l8)) : Option ((List (Int × Int × Bool)) × (List ((Int × Int × Bool) × (Int × Int × Bool))))) = some _ := hm
       replace hq := someE hq
       subst hq
       exact eX_J (fun hst => ⟨l7, A5, cap5, fp4, l8, rfl, Fr.of hst (by kernel_rfl), F13, F14, F15, F16, F17, F18, F19, G6, D7, D8, hB, hZ⟩)
     ·rintro a' w19 ⟨l9, A6, cap6, fp5, l10, hJ, hF3, F27, F28, F29, F30, F31, F32, F33, G11, D26, D27, hB, hZ⟩
      subst hJ
      refine Fr.goX hF3 (by kernel_rfl) ?_
      refine eX_block ?_
      refine eX_then ?_
      refine cW_region ?_
      refine wS_pure 2 [(32, .int .i64 (wr (x2 + 1))), (61, .int .i64 (wr (x2 + 1)))] (by kernel_rfl) ?_
      refine wS_end (by rfl) ?_
      have hq : (some (Ctl.next ((l9, wr (x2 + 1), l10))) : Option (Ctl ((List (Int × Int × Bool)) × Int × (List ((Int × Int × Bool) × (Int × Int × Bool)))) ((List (Int × Int × Bool)) × (List ((Int × Int × Bool) × (Int × Int × Bool)))))) = some _ := hm
      replace hq := someE hq
      subst hq
      exact eX_next hx3 (fun hst => ⟨l9, A6, cap6, fp5, wr (x2 + 1), l10, rfl, Fr.of hst (by kernel_rfl), F27, F28, F29, F30, F31, F32, F33, G11, D26, D27, hB, hZ⟩)
    ·have hm := condF hb2 hm
     refine cW_exit ?_
     refine eX_then_exit ?_
     have hq : (some (Ctl.out ((l7, l8))) : Option (Ctl ((List (Int × Int × Bool)) × Int × (List ((Int × Int × Bool) × (Int × Int × Bool)))) ((List (Int × Int × Bool)) × (List ((Int × Int × Bool) × (Int × Int × Bool)))))) = some _ := hm
     replace hq := someE hq
     subst hq
     refine eX_outX hx3 (fun hr3 => ?_)
     replace hr3 := hr3.symm
     subst hr3
     refine eX_block_hit ?_
     exact eX_J (fun hst => ⟨l7, A5, cap5, fp4, l8, rfl, Fr.of hst (by kernel_rfl), F13, F14, F15, F16, F17, F19, G6, D7, hB, hZ⟩)
   ·rintro a' w20 ⟨l5, A4, cap4, fp3, l6, hJ, hF4, F34, F35, F36, F37, F38, F39, G12, D28, hB, hZ⟩
    subst hJ
    refine Fr.goX hF4 (by kernel_rfl) ?_
    refine eX_block ?_
    refine eX_then ?_
    refine cW_region ?_
    refine wS_pure 1 [(24, .slice A4 (l5).length cap4)] (by kernel_rfl) ?_
    obtain ⟨y3, hy3, hm⟩ := bindE hm
    refine wS_cutO (k := 3) (enc := encIIB) (U := 92) (l := l5) (d := 25) (T := 107) (A := A4) (cap := cap4) (lo := 1) (by kernel_rfl) sl107 encIIB_ok F39 hy3 ?_
    intro A8 cap8 F40
    refine wS_pure 1 [(5, .slice A8 (l5.drop (Int.toNat 1)).length cap8)] (by kernel_rfl) ?_
    refine wS_end (by rfl) ?_
    have hq : (some (Ctl.next ((l5.drop (Int.toNat 1), l6))) : Option (Ctl ((List (Int × Int × Bool)) × (List ((Int × Int × Bool) × (Int × Int × Bool)))) ((List ((Int × Int × Bool) × (Int × Int × Bool)))))) = some _ := hm
    replace hq := someE hq
    subst hq
    exact eX_next hx1 (fun hst => ⟨l5.drop (Int.toNat 1), A8, cap8, fp3, l6, rfl, Fr.of hst (by kernel_rfl), F34, F35, F36, F37, F38, F40, G12, D28, hB, hZ⟩)
  ·have hm := condF hb1 hm
   refine cW_exit ?_
   refine eX_then_exit ?_
   have hq : (some (Ctl.out l4) : Option (Ctl ((List (Int × Int × Bool)) × (List ((Int × Int × Bool) × (Int × Int × Bool)))) ((List ((Int × Int × Bool) × (Int × Int × Bool)))))) = some _ := hm
   replace hq := someE hq
   subst hq
   refine eX_outX hx1 (fun hr4 => ?_)
   replace hr4 := hr4.symm
   subst hr4
   refine eX_block_hit ?_
   exact eX_J (fun hst => ⟨l4, rfl, Fr.of hst (by kernel_rfl), F10, hB, hZ⟩)
 ·rintro a' w21 ⟨l1, hJ, hF5, F41, hB, hZ⟩
  subst hJ
  refine Fr.goX hF5 (by kernel_rfl) ?_
  refine eX_then ?_
  refine cW_seq ?_
  refine cW_region ?_
  refine wS_pure 2 [(2, .map (some b2)), (62, .map (some b2))] (by kernel_rfl) ?_
  refine wS_end (by rfl) ?_
  refine eX_then ?_
  refine cW_ret ?_
  have hq : (some l1 : Option ((List ((Int × Int × Bool) × (Int × Int × Bool))))) = some _ := hm
  replace hq := someE hq
  subst hq
  refine eX_ret (vs := [.map (some b2)]) [.tmp 2] (by rfl) ⟨by (show lkE _ _ _ = _); kernel_rfl, trivial⟩ ?_
  exact ⟨b2, rfl, F41, G2, hB⟩

set_option maxRecDepth 100000 in
/-- impl.flow).push -/
theorem c_impl_flow_push_bimplflow_bimplMaze {w0 : World} {l0_0_0 : List (List (Int))} {A0_0_0 : Option Addr} {cap0_0_0 : Nat} {fp0_0_0 : List Nat} {b0_0 : Nat} {q0_1 : Int} {q0_2 : Int} {q0_3 : Int} {q0_4 : Int} {l0_5 : List ((Int × Int × Bool × Int × Int × Bool) × Bool)} {b0_5 : Nat} {b0 : Nat} {l1 : List ((Int × Int × Bool) × (Int × Int × Bool))} {b1 : Nat} {r : (Bool) × (List ((Int × Int × Bool × Int × Int × Bool) × Bool))} (hm : m_impl_flow_push_bimplflow_bimplMaze l0_0_0 q0_1 q0_2 q0_3 q0_4 l0_5 l1 = some r) (F0_0_0 : SlR 1 encI w0 fp0_0_0 A0_0_0 l0_0_0) (F0_0 : Cl w0 b0_0 26 [.slice A0_0_0 (l0_0_0).length cap0_0_0]) (F0_5 : Mp okIIBIIB ekIIBIIB vB w0 b0_5 l0_5) (F0 : Cl w0 b0 86 [.pointer (some ⟨b0_0, 0, none⟩), .int .i64 (q0_1), .int .i64 (q0_2), .int .i64 (q0_3), .int .i64 (q0_4), .map (some b0_5)]) (F1 : Mp okIIB ekIIB ekIIB w0 b1 l1) (J0_5__0_0_0 : Dj [b0_5] fp0_0_0) (J0_5__0_0 : Dj [b0_5] [b0_0]) (J0_5__0 : Dj [b0_5] [b0]) (J0_5__1 : Dj [b0_5] [b1]) :
  Calls Try.prog 48 #[.pointer (some ⟨b0, 0, none⟩), .map (some b1)] w0 fun e w' => e = .returned (.bool (r.1)) ∧ Mp okIIBIIB ekIIBIIB vB w' b0_5 r.2 ∧ Chg ([b0_5] ++ []) w0 w' := by
 have L0_0_0 := F0_0_0.low
 have L0_0 := lt1 F0_0.lt
 have L0_5 := F0_5.low
 have L0 := lt1 F0.lt
 have L1 := F1.low
 have hB : Chg ([b0_5] ++ []) w0 w0 := Chg.refl _ _
 have hZ := Nat.le_refl w0.heap.size
 unfold m_impl_flow_push_bimplflow_bimplMaze at hm
 refine enterE (N := 55) Try.func48 (by rfl) Try.ntmps48 (by simp) [(0, .pointer (some ⟨b0, 0, none⟩)), (1, .map (some b1))] (by rfl) (by kernel_rfl) (fun a => ?_)
 refine cW_seq ?_
 refine cW_region ?_
 refine wS_pure 1 [(4, .bool (false))] (by kernel_rfl) ?_
 refine wS_end (by rfl) ?_
 refine eX_then ?_
 refine cW_seq ?_
 refine cW_region ?_
 refine wS_pure 3 [(11, .pointer (some ⟨b0, 3, none⟩)), (10, .pointer (some ⟨b0, 0, none⟩)), (9, .pointer (some ⟨b0, 0, none⟩))] (by kernel_rfl) ?_
 refine wS_loadA (d := 12) (T := 29) (ad := ⟨b0, 3, none⟩) (vs := [.int .i64 (q0_3), .int .i64 (q0_4)]) (by kernel_rfl) vt29 (fun i u hu => box_cells F0 3 hu (by rfl)) ?_
 refine wS_pure 1 [(13, .agg #[.int .i64 (q0_3), .int .i64 (q0_4), .bool (false)])] (by kernel_rfl) ?_
 refine wS_alloc (d := 5) (T := 92) (z := .agg #[.int .i64 (0), .int .i64 (0), .bool (false)]) (by kernel_rfl) (by kernel_rfl) ?_
 intro b2 w1 G1 F2 hc1
 replace F2 : Cl w1 b2 92 [.int .i64 (0), .int .i64 (0), .bool (false)] := F2
 replace F0_0_0 := F0_0_0.chg hc1 Dj.nil
 replace F0_0 := F0_0.chg hc1 notNil
 replace F0_5 := F0_5.chg hc1 Dj.nil
 replace F0 := F0.chg hc1 notNil
 replace F1 := F1.chg hc1 Dj.nil
 replace hB := hB.inS hc1 inNil
 replace G1 := Nat.le_trans hZ G1
 replace hZ := Nat.le_trans hZ hc1.size
 refine wS_store (T := 92) (g := b2) (o := 0) (ad := ⟨b2, 0, none⟩) (v := .agg #[.int .i64 (q0_3), .int .i64 (q0_4), .bool (false)]) (vs := [.int .i64 (q0_3), .int .i64 (q0_4), .bool (false)]) (by kernel_rfl) (by rfl) sz92 (by rfl) (by rfl) F2 (by simp only [List.length_cons, List.length_nil]; omega) ?_
 intro w2 F3 hc2
 replace F0_0_0 := F0_0_0.chg hc2 (Dj.of L0_0_0 (low1 G1))
 replace F0_0 := F0_0.chg hc2 (dj1 (Dj.of L0_0 (low1 G1)))
 replace F0_5 := F0_5.chg hc2 (Dj.of L0_5 (low1 G1))
 replace F0 := F0.chg hc2 (dj1 (Dj.of L0 (low1 G1)))
 replace F1 := F1.chg hc2 (Dj.of L1 (low1 G1))
 replace hB := hB.inS hc2 (inLow (low1 G1))
 replace hZ := Nat.le_trans hZ hc2.size
 replace F3 : Cl w2 b2 92 [.int .i64 (q0_3), .int .i64 (q0_4), .bool (false)] := F3
 clear F2
 refine wS_end (by rfl) ?_
 refine eX_then ?_
 refine cW_seq ?_
 refine cW_seq ?_
 refine cW_region ?_
 refine wS_pure 1 [(15, .map (some b1))] (by kernel_rfl) ?_
 refine wS_loadA (d := 16) (T := 92) (ad := ⟨b2, 0, none⟩) (vs := [.int .i64 (q0_3), .int .i64 (q0_4), .bool (false)]) (by kernel_rfl) vt92 (fun i u hu => box_cells F3 0 hu (by rfl)) ?_
 obtain ⟨_, hk1, hm⟩ := bindE hm
 refine wS_lookOk (k := (q0_3, q0_4, false)) (d := 17) (T := 87) (by kernel_rfl) rfl mk87 mp87 F1 (mpE hk1) ?_
 refine wS_pure 3 [(19, .bool ((mget l1 ((q0_3, q0_4, false))).isSome)), (18, .agg #[.int .i64 (((mget l1 ((q0_3, q0_4, false))).getD (0, 0, false)).1), .int .i64 (((mget l1 ((q0_3, q0_4, false))).getD (0, 0, false)).2.1), .bool (((mget l1 ((q0_3, q0_4, false))).getD (0, 0, false)).2.2)]), (14, .tuple #[.agg #[.int .i64 (((mget l1 ((q0_3, q0_4, false))).getD (0, 0, false)).1), .int .i64 (((mget l1 ((q0_3, q0_4, false))).getD (0, 0, false)).2.1), .bool (((mget l1 ((q0_3, q0_4, false))).getD (0, 0, false)).2.2)], .bool ((mget l1 ((q0_3, q0_4, false))).isSome)])] (by kernel_rfl) ?_
 refine wS_alloc (d := 6) (T := 92) (z := .agg #[.int .i64 (0), .int .i64 (0), .bool (false)]) (by kernel_rfl) (by kernel_rfl) ?_
 intro b3 w3 G2 F4 hc3
 replace F4 : Cl w3 b3 92 [.int .i64 (0), .int .i64 (0), .bool (false)] := F4
 have D1 : Dj [b2] [b3] := Dj.of (lt1 F3.lt) (low1 G2)
 replace F0_0_0 := F0_0_0.chg hc3 Dj.nil
 replace F0_0 := F0_0.chg hc3 notNil
 replace F0_5 := F0_5.chg hc3 Dj.nil
 replace F0 := F0.chg hc3 notNil
 replace F1 := F1.chg hc3 Dj.nil
 replace F3 := F3.chg hc3 notNil
 replace hB := hB.inS hc3 inNil
 replace G2 := Nat.le_trans hZ G2
 replace hZ := Nat.le_trans hZ hc3.size
 refine wS_store (T := 92) (g := b3) (o := 0) (ad := ⟨b3, 0, none⟩) (v := .agg #[.int .i64 (((mget l1 ((q0_3, q0_4, false))).getD (0, 0, false)).1), .int .i64 (((mget l1 ((q0_3, q0_4, false))).getD (0, 0, false)).2.1), .bool (((mget l1 ((q0_3, q0_4, false))).getD (0, 0, false)).2.2)]) (vs := [.int .i64 (((mget l1 ((q0_3, q0_4, false))).getD (0, 0, false)).1), .int .i64 (((mget l1 ((q0_3, q0_4, false))).getD (0, 0, false)).2.1), .bool (((mget l1 ((q0_3, q0_4, false))).getD (0, 0, false)).2.2)]) (by kernel_rfl) (by rfl) sz92 (by rfl) (by rfl) F4 (by simp only [List.length_cons, List.length_nil]; omega) ?_
 intro w4 F5 hc4
 replace F0_0_0 := F0_0_0.chg hc4 (Dj.of L0_0_0 (low1 G2))
 replace F0_0 := F0_0.chg hc4 (dj1 (Dj.of L0_0 (low1 G2)))
 replace F0_5 := F0_5.chg hc4 (Dj.of L0_5 (low1 G2))
 replace F0 := F0.chg hc4 (dj1 (Dj.of L0 (low1 G2)))
 replace F1 := F1.chg hc4 (Dj.of L1 (low1 G2))
 replace F3 := F3.chg hc4 (dj1 D1)
 replace hB := hB.inS hc4 (inLow (low1 G2))
 replace hZ := Nat.le_trans hZ hc4.size
 replace F5 : Cl w4 b3 92 [.int .i64 (((mget l1 ((q0_3, q0_4, false))).getD (0, 0, false)).1), .int .i64 (((mget l1 ((q0_3, q0_4, false))).getD (0, 0, false)).2.1), .bool (((mget l1 ((q0_3, q0_4, false))).getD (0, 0, false)).2.2)] := F5
 clear F4
 refine wS_pure 1 [(7, .bool ((mget l1 ((q0_3, q0_4, false))).isSome))] (by kernel_rfl) ?_
 refine wS_end (by rfl) ?_
 refine eX_then ?_
 refine cW_seq ?_
 refine cW_region ?_
 refine wS_pure 2 [(21, .bool (!((mget l1 ((q0_3, q0_4, false))).isSome))), (20, .bool ((mget l1 ((q0_3, q0_4, false))).isSome))] (by kernel_rfl) ?_
 refine wS_end (by rfl) ?_
 refine eX_then ?_
 refine cW_cond (t := !((mget l1 ((q0_3, q0_4, false))).isSome)) (by kernel_rfl) (fun hb1 => ?_) (fun hb1 => ?_)
 ·have hm := condT hb1 hm
  refine cW_seq ?_
  refine cW_region ?_
  refine wS_pure 1 [(4, .bool (false))] (by kernel_rfl) ?_
  refine wS_end (by rfl) ?_
  refine eX_then ?_
  refine cW_ret ?_
  refine eX_then_ret ?_
  have hq : (some ((false, l0_5)) : Option ((Bool) × (List ((Int × Int × Bool × Int × Int × Bool) × Bool)))) = some _ := hm
  replace hq := someE hq
  subst hq
  refine eX_ret (vs := [.bool (false)]) [.tmp 4] (by rfl) ⟨by (show lkE _ _ _ = _); kernel_rfl, trivial⟩ ?_
  exact ⟨rfl, F0_5, hB⟩
 ·have hm := condF hb1 hm
  refine cW_skip ?_
  refine eX_then ?_
  refine cW_seq ?_
  obtain ⟨r1, hr1, hm⟩ := bindE hm
  have hm1 := hm
  refine cW_cut (fun a' w' => ∃ l2 : List ((Int × Int × Bool × Int × Int × Bool) × Bool), l2 = r1 ∧ Fr 55 [] a' ∧ Mp okIIBIIB ekIIBIIB vB w' b0_5 l2 ∧ Chg ([b0_5] ++ []) w0 w' ∧ w0.heap.size ≤ w'.heap.size) ?_ ?_
  ·refine cW_block ?_
   refine cW_loop _ (fun (s1 : Int × Int × Bool × (List ((Int × Int × Bool × Int × Int × Bool) × Bool))) a' w' => ∃ x1 : Int, ∃ x2 : Int, ∃ x3 : Bool, ∃ l3 : List ((Int × Int × Bool × Int × Int × Bool) × Bool), (x1, x2, x3, l3) = s1 ∧ Fr 55 [(0, .pointer (some ⟨b0, 0, none⟩)), (1, .map (some b1)), (5, .pointer (some ⟨b2, 0, none⟩))] a' ∧ SlR 1 encI w' fp0_0_0 A0_0_0 l0_0_0 ∧ Cl w' b0_0 26 [.slice A0_0_0 (l0_0_0).length cap0_0_0] ∧ Mp okIIBIIB ekIIBIIB vB w' b0_5 l3 ∧ Cl w' b0 86 [.pointer (some ⟨b0_0, 0, none⟩), .int .i64 (q0_1), .int .i64 (q0_2), .int .i64 (q0_3), .int .i64 (q0_4), .map (some b0_5)] ∧ Mp okIIB ekIIB ekIIB w' b1 l1 ∧ Cl w' b2 92 [.int .i64 (x1), .int .i64 (x2), .bool (x3)] ∧ Chg ([b0_5] ++ []) w0 w' ∧ w0.heap.size ≤ w'.heap.size) hr1 (fun hst => ⟨q0_3, q0_4, false, l0_5, rfl, Fr.of hst (by kernel_rfl), F0_0_0, F0_0, F0_5, F0, F1, F3, hB, hZ⟩) ?_
   rintro _ c1 a' w5 ⟨x1, x2, x3, l3, rfl, hF1, F6, F7, F8, F9, F10, F11, hB, hZ⟩ hx1
   refine Fr.goOn hF1 (by kernel_rfl) ?_
   have hm := hx1
   unfold m_impl_flow_push_bimplflow_bimplMaze_s1 at hm
   refine cW_seq ?_
   refine cW_seq ?_
   refine cW_drawnTail [] 6 (by kernel_rfl) (by kernel_rfl) (fun w6 hc5 => ?_)
   replace F6 := F6.chg hc5 Dj.nil
   replace F7 := F7.chg hc5 notNil
   replace F8 := F8.chg hc5 Dj.nil
   replace F9 := F9.chg hc5 notNil
   replace F10 := F10.chg hc5 Dj.nil
   replace F11 := F11.chg hc5 notNil
   replace hB := hB.inS hc5 inNil
   replace hZ := Nat.le_trans hZ hc5.size
   have hS := Chg.refl [] w6
   have Z1 := F6
   have Z2 := F7
   have Z3 := F8
   have Z4 := F9
   have Z5 := F10
   have Z6 := F11
   refine wH_loadA (i := 0) (d := 22) (T := 92) (ad := ⟨b2, 0, none⟩) (vs := [.int .i64 (x1), .int .i64 (x2), .bool (x3)]) (by kernel_rfl) (qT (qT (qT (qL (qB (qT (qT qZ))))))) (by kernel_rfl) (by kernel_rfl) vt92 (fun W hW i u hu => box_cells (Z6.chg hW notNil) 0 hu (by rfl)) ?_
   refine wH_take [1, 2, 3] [3, 2, 1, 0] [(25, .pointer (some ⟨b0, 1, none⟩)), (24, .pointer (some ⟨b0, 0, none⟩)), (23, .pointer (some ⟨b0, 0, none⟩))] (by kernel_rfl) (qT (qT (qT (qL (qB (qT (qT qZ))))))) (by kernel_rfl) ?_
   refine wH_loadA (i := 4) (d := 26) (T := 29) (ad := ⟨b0, 1, none⟩) (vs := [.int .i64 (q0_1), .int .i64 (q0_2)]) (by kernel_rfl) (qT (qT (qT (qL (qB (qT (qT qZ))))))) (by kernel_rfl) (by kernel_rfl) vt29 (fun W hW i u hu => box_cells (Z4.chg hW notNil) 1 hu (by rfl)) ?_
   refine wH_take [5] [5, 4, 3, 2, 1, 0] [(27, .agg #[.int .i64 (q0_1), .int .i64 (q0_2), .bool (true)])] (by kernel_rfl) (qT (qT (qT (qL (qB (qT (qT qZ))))))) (by kernel_rfl) ?_
   refine wH_done (by kernel_rfl) ?_
   refine eX_tail ?_
   refine wS_neG (d := 28) (T := 92) (x := x1) (y := x2) (p := x3) (x' := q0_1) (y' := q0_2) (q := true) (by kernel_rfl) eq92 ?_
   refine wS_end (by rfl) ?_
   refine eX_then ?_
   refine cW_cond (t := !(x1 == q0_1 && x2 == q0_2 && x3 == true)) (by kernel_rfl) (fun hb2 => ?_) (fun hb2 => ?_)
   ·have hm := condT hb2 hm
    refine cW_skip ?_
    refine eX_then ?_
    refine cW_block ?_
    obtain ⟨s2, hs1, hm⟩ := bindE hm
    refine cW_cut (fun a' w' => ∃ x4 : Int, ∃ x5 : Int, ∃ x6 : Bool, ∃ l4 : List ((Int × Int × Bool × Int × Int × Bool) × Bool), (x4, x5, x6, l4) = s2 ∧ Fr 55 [(0, .pointer (some ⟨b0, 0, none⟩)), (1, .map (some b1)), (5, .pointer (some ⟨b2, 0, none⟩))] a' ∧ SlR 1 encI w' fp0_0_0 A0_0_0 l0_0_0 ∧ Cl w' b0_0 26 [.slice A0_0_0 (l0_0_0).length cap0_0_0] ∧ Mp okIIBIIB ekIIBIIB vB w' b0_5 l4 ∧ Cl w' b0 86 [.pointer (some ⟨b0_0, 0, none⟩), .int .i64 (q0_1), .int .i64 (q0_2), .int .i64 (q0_3), .int .i64 (q0_4), .map (some b0_5)] ∧ Mp okIIB ekIIB ekIIB w' b1 l1 ∧ Cl w' b2 92 [.int .i64 (x4), .int .i64 (x5), .bool (x6)] ∧ Chg ([b0_5] ++ []) w0 w' ∧ w0.heap.size ≤ w'.heap.size) ?_ ?_
    ·have hm := hs1
     refine cW_seq ?_
     refine cW_region ?_
     refine wS_pure 1 [(29, .map (some b1))] (by kernel_rfl) ?_
     refine wS_loadA (d := 30) (T := 92) (ad := ⟨b2, 0, none⟩) (vs := [.int .i64 (x1), .int .i64 (x2), .bool (x3)]) (by kernel_rfl) vt92 (fun i u hu => box_cells F11 0 hu (by rfl)) ?_
     obtain ⟨y1, hy1, hm⟩ := bindE hm
     refine wS_look (k := (x1, x2, x3)) (d := 31) (T := 87) (by kernel_rfl) mk87 mp87 F10 hy1 ?_
     refine wS_alloc (d := 8) (T := 92) (z := .agg #[.int .i64 (0), .int .i64 (0), .bool (false)]) (by kernel_rfl) (by kernel_rfl) ?_
     intro b4 w7 G3 F12 hc6
     replace F12 : Cl w7 b4 92 [.int .i64 (0), .int .i64 (0), .bool (false)] := F12
     have D2 : Dj [b2] [b4] := Dj.of (lt1 F11.lt) (low1 G3)
     replace F6 := F6.chg hc6 Dj.nil
     replace F7 := F7.chg hc6 notNil
     replace F8 := F8.chg hc6 Dj.nil
     replace F9 := F9.chg hc6 notNil
     replace F10 := F10.chg hc6 Dj.nil
     replace F11 := F11.chg hc6 notNil
     replace hB := hB.inS hc6 inNil
     replace G3 := Nat.le_trans hZ G3
     replace hZ := Nat.le_trans hZ hc6.size
     refine wS_store (T := 92) (g := b4) (o := 0) (ad := ⟨b4, 0, none⟩) (v := .agg #[.int .i64 ((y1).1), .int .i64 ((y1).2.1), .bool ((y1).2.2)]) (vs := [.int .i64 ((y1).1), .int .i64 ((y1).2.1), .bool ((y1).2.2)]) (by kernel_rfl) (by rfl) sz92 (by rfl) (by rfl) F12 (by simp only [List.length_cons, List.length_nil]; omega) ?_
     intro w8 F13 hc7
     replace F6 := F6.chg hc7 (Dj.of L0_0_0 (low1 G3))
     replace F7 := F7.chg hc7 (dj1 (Dj.of L0_0 (low1 G3)))
     replace F8 := F8.chg hc7 (Dj.of L0_5 (low1 G3))
     replace F9 := F9.chg hc7 (dj1 (Dj.of L0 (low1 G3)))
     replace F10 := F10.chg hc7 (Dj.of L1 (low1 G3))
     replace F11 := F11.chg hc7 (dj1 D2)
     replace hB := hB.inS hc7 (inLow (low1 G3))
     replace hZ := Nat.le_trans hZ hc7.size
     replace F13 : Cl w8 b4 92 [.int .i64 ((y1).1), .int .i64 ((y1).2.1), .bool ((y1).2.2)] := F13
     clear F12
     refine wS_end (by rfl) ?_
     refine eX_then ?_
     refine cW_seq ?_
     obtain ⟨s3, hs2, hm⟩ := bindE hm
     refine cW_cut (fun a' w' => ∃ l5 : List ((Int × Int × Bool × Int × Int × Bool) × Bool), l5 = s3 ∧ Fr 55 [(0, .pointer (some ⟨b0, 0, none⟩)), (1, .map (some b1)), (5, .pointer (some ⟨b2, 0, none⟩)), (8, .pointer (some ⟨b4, 0, none⟩))] a' ∧ SlR 1 encI w' fp0_0_0 A0_0_0 l0_0_0 ∧ Cl w' b0_0 26 [.slice A0_0_0 (l0_0_0).length cap0_0_0] ∧ Mp okIIBIIB ekIIBIIB vB w' b0_5 l5 ∧ Cl w' b0 86 [.pointer (some ⟨b0_0, 0, none⟩), .int .i64 (q0_1), .int .i64 (q0_2), .int .i64 (q0_3), .int .i64 (q0_4), .map (some b0_5)] ∧ Mp okIIB ekIIB ekIIB w' b1 l1 ∧ Cl w' b2 92 [.int .i64 (x1), .int .i64 (x2), .bool (x3)] ∧ Cl w' b4 92 [.int .i64 ((y1).1), .int .i64 ((y1).2.1), .bool ((y1).2.2)] ∧ Chg ([b0_5] ++ []) w0 w' ∧ w0.heap.size ≤ w'.heap.size) ?_ ?_
     ·have hm := hs2
      refine cW_seq ?_
      refine cW_drawnTail [] 7 (by kernel_rfl) (by kernel_rfl) (fun w9 hc8 => ?_)
      replace F6 := F6.chg hc8 Dj.nil
      replace F7 := F7.chg hc8 notNil
      replace F8 := F8.chg hc8 Dj.nil
      replace F9 := F9.chg hc8 notNil
      replace F10 := F10.chg hc8 Dj.nil
      replace F11 := F11.chg hc8 notNil
      replace F13 := F13.chg hc8 notNil
      replace hB := hB.inS hc8 inNil
      replace hZ := Nat.le_trans hZ hc8.size
      have hS := Chg.refl [] w9
      have Z7 := F6
      have Z8 := F7
      have Z9 := F8
      have Z10 := F9
      have Z11 := F10
      have Z12 := F11
      have Z13 := F13
      refine wH_take [0, 1, 2] [2, 1, 0] [(34, .pointer (some ⟨b0, 5, none⟩)), (33, .pointer (some ⟨b0, 0, none⟩)), (32, .pointer (some ⟨b0, 0, none⟩))] (by kernel_rfl) (qT (qT (qT (qT (qT (qB (qL (qB (qT (qT qZ)))))))))) (by kernel_rfl) ?_
      refine wH_load1 (i := 3) (d := 35) (T := 84) (ad := ⟨b0, 5, none⟩) (v := .map (some b0_5)) (by kernel_rfl) (qT (qT (qT (qT (qT (qB (qL (qB (qT (qT qZ)))))))))) (by kernel_rfl) (by kernel_rfl) vt84 (fun W hW => (Z10.chg hW notNil).cell 5) ?_
      refine wH_loadA (i := 4) (d := 36) (T := 92) (ad := ⟨b2, 0, none⟩) (vs := [.int .i64 (x1), .int .i64 (x2), .bool (x3)]) (by kernel_rfl) (qT (qT (qT (qT (qT (qB (qL (qB (qT (qT qZ)))))))))) (by kernel_rfl) (by kernel_rfl) vt92 (fun W hW i u hu => box_cells (Z12.chg hW notNil) 0 hu (by rfl)) ?_
      refine wH_loadA (i := 5) (d := 37) (T := 92) (ad := ⟨b4, 0, none⟩) (vs := [.int .i64 ((y1).1), .int .i64 ((y1).2.1), .bool ((y1).2.2)]) (by kernel_rfl) (qT (qT (qT (qT (qT (qB (qL (qB (qT (qT qZ)))))))))) (by kernel_rfl) (by kernel_rfl) vt92 (fun W hW i u hu => box_cells (Z13.chg hW notNil) 0 hu (by rfl)) ?_
      refine wH_take [6] [6, 5, 4, 3, 2, 1, 0] [(38, .agg #[.int .i64 (x1), .int .i64 (x2), .bool (x3), .int .i64 ((y1).1), .int .i64 ((y1).2.1), .bool ((y1).2.2)])] (by kernel_rfl) (qT (qT (qT (qT (qT (qB (qL (qB (qT (qT qZ)))))))))) (by kernel_rfl) ?_
      refine wH_done (by kernel_rfl) ?_
      refine eX_tail ?_
      obtain ⟨y2, hy2, hm⟩ := bindE hm
      refine wS_look (k := (x1, x2, x3, (y1).1, (y1).2.1, (y1).2.2)) (d := 39) (T := 84) (by kernel_rfl) mk84 mp84 F8 hy2 ?_
      refine wS_end (by rfl) ?_
      refine eX_then ?_
      refine cW_cond (t := y2) (by kernel_rfl) (fun hb3 => ?_) (fun hb3 => ?_)
      ·have hm := condT hb3 hm
       refine cW_drawnTail [] 7 (by kernel_rfl) (by kernel_rfl) (fun w10 hc9 => ?_)
       replace F6 := F6.chg hc9 Dj.nil
       replace F7 := F7.chg hc9 notNil
       replace F8 := F8.chg hc9 Dj.nil
       replace F9 := F9.chg hc9 notNil
       replace F10 := F10.chg hc9 Dj.nil
       replace F11 := F11.chg hc9 notNil
       replace F13 := F13.chg hc9 notNil
       replace hB := hB.inS hc9 inNil
       replace hZ := Nat.le_trans hZ hc9.size
       have hS := Chg.refl [] w10
       have Z14 := F6
       have Z15 := F7
       have Z16 := F8
       have Z17 := F9
       have Z18 := F10
       have Z19 := F11
       have Z20 := F13
       refine wH_take [0, 1, 2] [2, 1, 0] [(42, .pointer (some ⟨b0, 5, none⟩)), (41, .pointer (some ⟨b0, 0, none⟩)), (40, .pointer (some ⟨b0, 0, none⟩))] (by kernel_rfl) (qT (qT (qT (qT (qB (qL (qB (qT (qT qZ))))))))) (by kernel_rfl) ?_
       refine wH_load1 (i := 3) (d := 43) (T := 84) (ad := ⟨b0, 5, none⟩) (v := .map (some b0_5)) (by kernel_rfl) (qT (qT (qT (qT (qB (qL (qB (qT (qT qZ))))))))) (by kernel_rfl) (by kernel_rfl) vt84 (fun W hW => (Z17.chg hW notNil).cell 5) ?_
       refine wH_loadA (i := 4) (d := 44) (T := 92) (ad := ⟨b2, 0, none⟩) (vs := [.int .i64 (x1), .int .i64 (x2), .bool (x3)]) (by kernel_rfl) (qT (qT (qT (qT (qB (qL (qB (qT (qT qZ))))))))) (by kernel_rfl) (by kernel_rfl) vt92 (fun W hW i u hu => box_cells (Z19.chg hW notNil) 0 hu (by rfl)) ?_
       refine wH_loadA (i := 5) (d := 45) (T := 92) (ad := ⟨b4, 0, none⟩) (vs := [.int .i64 ((y1).1), .int .i64 ((y1).2.1), .bool ((y1).2.2)]) (by kernel_rfl) (qT (qT (qT (qT (qB (qL (qB (qT (qT qZ))))))))) (by kernel_rfl) (by kernel_rfl) vt92 (fun W hW i u hu => box_cells (Z20.chg hW notNil) 0 hu (by rfl)) ?_
       refine wH_take [6] [6, 5, 4, 3, 2, 1, 0] [(46, .agg #[.int .i64 (x1), .int .i64 (x2), .bool (x3), .int .i64 ((y1).1), .int .i64 ((y1).2.1), .bool ((y1).2.2)])] (by kernel_rfl) (qT (qT (qT (qT (qB (qL (qB (qT (qT qZ))))))))) (by kernel_rfl) ?_
       refine wH_done (by kernel_rfl) ?_
       refine eX_tail ?_
       obtain ⟨_, hk2, hm⟩ := bindE hm
       refine wS_mdelN (k := (x1, x2, x3, (y1).1, (y1).2.1, (y1).2.2)) (T := 84) (T2 := 110) (by kernel_rfl) rfl mk84 mp84 F8 (mpE hk2) ?_
       intro w11 F14 hc10
       replace F6 := F6.chg hc10 (J0_5__0_0_0).symm
       replace F7 := F7.chg hc10 (dj1 (J0_5__0_0).symm)
       replace F9 := F9.chg hc10 (dj1 (J0_5__0).symm)
       replace F10 := F10.chg hc10 (J0_5__1).symm
       replace F11 := F11.chg hc10 (dj1 (Dj.of L0_5 (low1 G1)).symm)
       replace F13 := F13.chg hc10 (dj1 (Dj.of L0_5 (low1 G3)).symm)
       replace hB := hB.inS hc10 (inMem (fun x hx => (List.mem_append_left _ hx)))
       replace hZ := Nat.le_trans hZ hc10.size
       clear F8
       refine wS_end (by rfl) ?_
       have hq : (some (mdel l3 ((x1, x2, x3, (y1).1, (y1).2.1, (y1).2.2))) : Option ((List ((Int × Int × Bool × Int × Int × Bool) × Bool)))) = some _ := hm
       replace hq := someE hq
       subst hq
       exact eX_J (fun hst => ⟨mdel l3 ((x1, x2, x3, (y1).1, (y1).2.1, (y1).2.2)), rfl, Fr.of hst (by kernel_rfl), F6, F7, F14, F9, F10, F11, F13, hB, hZ⟩)
      ·have hm := condF hb3 hm
       refine cW_drawnTail [] 7 (by kernel_rfl) (by kernel_rfl) (fun w12 hc11 => ?_)
       replace F6 := F6.chg hc11 Dj.nil
       replace F7 := F7.chg hc11 notNil
       replace F8 := F8.chg hc11 Dj.nil
       replace F9 := F9.chg hc11 notNil
       replace F10 := F10.chg hc11 Dj.nil
       replace F11 := F11.chg hc11 notNil
       replace F13 := F13.chg hc11 notNil
       replace hB := hB.inS hc11 inNil
       replace hZ := Nat.le_trans hZ hc11.size
       have hS := Chg.refl [] w12
       have Z21 := F6
       have Z22 := F7
       have Z23 := F8
       have Z24 := F9
       have Z25 := F10
       have Z26 := F11
       have Z27 := F13
       refine wH_take [0, 1, 2] [2, 1, 0] [(49, .pointer (some ⟨b0, 5, none⟩)), (48, .pointer (some ⟨b0, 0, none⟩)), (47, .pointer (some ⟨b0, 0, none⟩))] (by kernel_rfl) (qT (qT (qT (qT (qB (qL (qB (qT (qT qZ))))))))) (by kernel_rfl) ?_
       refine wH_load1 (i := 3) (d := 50) (T := 84) (ad := ⟨b0, 5, none⟩) (v := .map (some b0_5)) (by kernel_rfl) (qT (qT (qT (qT (qB (qL (qB (qT (qT qZ))))))))) (by kernel_rfl) (by kernel_rfl) vt84 (fun W hW => (Z24.chg hW notNil).cell 5) ?_
       refine wH_loadA (i := 4) (d := 51) (T := 92) (ad := ⟨b4, 0, none⟩) (vs := [.int .i64 ((y1).1), .int .i64 ((y1).2.1), .bool ((y1).2.2)]) (by kernel_rfl) (qT (qT (qT (qT (qB (qL (qB (qT (qT qZ))))))))) (by kernel_rfl) (by kernel_rfl) vt92 (fun W hW i u hu => box_cells (Z27.chg hW notNil) 0 hu (by rfl)) ?_
       refine wH_loadA (i := 5) (d := 52) (T := 92) (ad := ⟨b2, 0, none⟩) (vs := [.int .i64 (x1), .int .i64 (x2), .bool (x3)]) (by kernel_rfl) (qT (qT (qT (qT (qB (qL (qB (qT (qT qZ))))))))) (by kernel_rfl) (by kernel_rfl) vt92 (fun W hW i u hu => box_cells (Z26.chg hW notNil) 0 hu (by rfl)) ?_
       refine wH_take [6] [6, 5, 4, 3, 2, 1, 0] [(53, .agg #[.int .i64 ((y1).1), .int .i64 ((y1).2.1), .bool ((y1).2.2), .int .i64 (x1), .int .i64 (x2), .bool (x3)])] (by kernel_rfl) (qT (qT (qT (qT (qB (qL (qB (qT (qT qZ))))))))) (by kernel_rfl) ?_
       refine wH_done (by kernel_rfl) ?_
       refine eX_tail ?_
       obtain ⟨_, hk3, hm⟩ := bindE hm
       refine wS_mup (k := ((y1).1, (y1).2.1, (y1).2.2, x1, x2, x3)) (x := true) (T := 84) (by kernel_rfl) rfl rfl mk84 mp84 F8 (mpE hk3) ?_
       intro w13 F15 hc12
       replace F6 := F6.chg hc12 (J0_5__0_0_0).symm
       replace F7 := F7.chg hc12 (dj1 (J0_5__0_0).symm)
       replace F9 := F9.chg hc12 (dj1 (J0_5__0).symm)
       replace F10 := F10.chg hc12 (J0_5__1).symm
       replace F11 := F11.chg hc12 (dj1 (Dj.of L0_5 (low1 G1)).symm)
       replace F13 := F13.chg hc12 (dj1 (Dj.of L0_5 (low1 G3)).symm)
       replace hB := hB.inS hc12 (inMem (fun x hx => (List.mem_append_left _ hx)))
       replace hZ := Nat.le_trans hZ hc12.size
       clear F8
       refine wS_end (by rfl) ?_
       have hq : (some (mup l3 (((y1).1, (y1).2.1, (y1).2.2, x1, x2, x3)) true) : Option ((List ((Int × Int × Bool × Int × Int × Bool) × Bool)))) = some _ := hm
       replace hq := someE hq
       subst hq
       exact eX_J (fun hst => ⟨mup l3 (((y1).1, (y1).2.1, (y1).2.2, x1, x2, x3)) true, rfl, Fr.of hst (by kernel_rfl), F6, F7, F15, F9, F10, F11, F13, hB, hZ⟩)
     ·rintro a' w14 ⟨l5, hJ, hF2, F16, F17, F18, F19, F20, F21, F22, hB, hZ⟩
      subst hJ
      refine Fr.goX hF2 (by kernel_rfl) ?_
      refine eX_then ?_
      refine cW_region ?_
      refine wS_loadA (d := 54) (T := 92) (ad := ⟨b4, 0, none⟩) (vs := [.int .i64 ((y1).1), .int .i64 ((y1).2.1), .bool ((y1).2.2)]) (by kernel_rfl) vt92 (fun i u hu => box_cells F22 0 hu (by rfl)) ?_
      refine wS_store (T := 92) (g := b2) (o := 0) (ad := ⟨b2, 0, none⟩) (v := .agg #[.int .i64 ((y1).1), .int .i64 ((y1).2.1), .bool ((y1).2.2)]) (vs := [.int .i64 ((y1).1), .int .i64 ((y1).2.1), .bool ((y1).2.2)]) (by kernel_rfl) (by rfl) sz92 (by rfl) (by rfl) F21 (by simp only [List.length_cons, List.length_nil]; omega) ?_
      intro w15 F23 hc13
      replace F16 := F16.chg hc13 (Dj.of L0_0_0 (low1 G1))
      replace F17 := F17.chg hc13 (dj1 (Dj.of L0_0 (low1 G1)))
      replace F18 := F18.chg hc13 (Dj.of L0_5 (low1 G1))
      replace F19 := F19.chg hc13 (dj1 (Dj.of L0 (low1 G1)))
      replace F20 := F20.chg hc13 (Dj.of L1 (low1 G1))
      replace F22 := F22.chg hc13 (dj1 (D2).symm)
      replace hB := hB.inS hc13 (inLow (low1 G1))
      replace hZ := Nat.le_trans hZ hc13.size
      replace F23 : Cl w15 b2 92 [.int .i64 ((y1).1), .int .i64 ((y1).2.1), .bool ((y1).2.2)] := F23
      clear F21
      refine wS_end (by rfl) ?_
      have hq : (some (((y1).1, (y1).2.1, (y1).2.2, l5)) : Option (Int × Int × Bool × (List ((Int × Int × Bool × Int × Int × Bool) × Bool)))) = some _ := hm
      replace hq := someE hq
      subst hq
      exact eX_J (fun hst => ⟨(y1).1, (y1).2.1, (y1).2.2, l5, rfl, Fr.of hst (by kernel_rfl), F16, F17, F18, F19, F20, F23, hB, hZ⟩)
    ·rintro a' w16 ⟨x4, x5, x6, l4, hJ, hF3, F24, F25, F26, F27, F28, F29, hB, hZ⟩
     subst hJ
     refine Fr.goX hF3 (by kernel_rfl) ?_
     refine eX_block ?_
     have hq : (some (Ctl.next ((x4, x5, x6, l4))) : Option (Ctl (Int × Int × Bool × (List ((Int × Int × Bool × Int × Int × Bool) × Bool))) ((List ((Int × Int × Bool × Int × Int × Bool) × Bool))))) = some _ := hm
     replace hq := someE hq
     subst hq
     exact eX_next hx1 (fun hst => ⟨x4, x5, x6, l4, rfl, Fr.of hst (by kernel_rfl), F24, F25, F26, F27, F28, F29, hB, hZ⟩)
   ·have hm := condF hb2 hm
    refine cW_exit ?_
    refine eX_then_exit ?_
    have hq : (some (Ctl.out l3) : Option (Ctl (Int × Int × Bool × (List ((Int × Int × Bool × Int × Int × Bool) × Bool))) ((List ((Int × Int × Bool × Int × Int × Bool) × Bool))))) = some _ := hm
    replace hq := someE hq
    subst hq
    refine eX_outX hx1 (fun hr2 => ?_)
    replace hr2 := hr2.symm
    subst hr2
    refine eX_block_hit ?_
    exact eX_J (fun hst => ⟨l3, rfl, Fr.of hst (by kernel_rfl), F8, hB, hZ⟩)
  ·rintro a' w17 ⟨l2, hJ, hF4, F30, hB, hZ⟩
   subst hJ
   refine Fr.goX hF4 (by kernel_rfl) ?_
   refine eX_then ?_
   refine cW_seq ?_
   refine cW_region ?_
   refine wS_pure 1 [(4, .bool (true))] (by kernel_rfl) ?_
   refine wS_end (by rfl) ?_
   refine eX_then ?_
   refine cW_ret ?_
   have hq : (some ((true, l2)) : Option ((Bool) × (List ((Int × Int × Bool × Int × Int × Bool) × Bool)))) = some _ := hm
   replace hq := someE hq
   subst hq
   refine eX_ret (vs := [.bool (true)]) [.tmp 4] (by rfl) ⟨by (show lkE _ _ _ = _); kernel_rfl, trivial⟩ ?_
   exact ⟨rfl, F30, hB⟩

end Go.Proofs.Ytcknpoeannbpbaa
