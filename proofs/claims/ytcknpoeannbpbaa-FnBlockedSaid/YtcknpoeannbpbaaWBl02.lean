/- Printed walks: (*impl.flow).room, (*impl.flow).search, (*impl.flow).push, impl.apart, impl.FewestBlocks, impl.MostApart, impl.IsPoint, impl.DistanceOf, impl.mazeOk, (*impl.Maze).after, (*impl.Maze).costs. -/
import Derived.Test.YtcknpoeannbpbaaProg
import Derived.Test.YtcknpoeannbpbaaWBl01
set_option linter.unusedSimpArgs false
set_option linter.unusedVariables false
namespace Go.Proofs.Ytcknpoeannbpbaa
open Go.RowKit
attribute [local irreducible] wS cW eX wH

theorem ent28 : Ent Try.prog 28 := fun _ => by kernel_rfl
theorem ent29 : Ent Try.prog 29 := fun _ => by kernel_rfl
theorem ent30 : Ent Try.prog 30 := fun _ => by kernel_rfl
theorem ent36 : Ent Try.prog 36 := fun _ => by kernel_rfl
theorem ent47 : Ent Try.prog 47 := fun _ => by kernel_rfl
theorem ent48 : Ent Try.prog 48 := fun _ => by kernel_rfl
theorem ent49 : Ent Try.prog 49 := fun _ => by kernel_rfl
theorem ent66 : Ent Try.prog 66 := fun _ => by kernel_rfl
theorem ent67 : Ent Try.prog 67 := fun _ => by kernel_rfl
theorem vt67 : VarTy Try.prog 67 3 true := ⟨by kernel_rfl, by kernel_rfl⟩
theorem vt84 : VarTy Try.prog 84 1 false := ⟨by kernel_rfl, by kernel_rfl⟩
theorem vt92 : VarTy Try.prog 92 3 true := ⟨by kernel_rfl, by kernel_rfl⟩
theorem sl97 : SlTy Try.prog 97 67 3 := ⟨Try.underlying97, by kernel_rfl⟩
theorem sl107 : SlTy Try.prog 107 92 3 := ⟨Try.underlying107, by kernel_rfl⟩
theorem el97 : ElTy Try.prog 97 67 3 (.agg #[.int .i64 (0), .int .i64 (0), .int .i64 (0)]) := ElTy.mk' Try.underlying97 (by kernel_rfl) (by rfl)
theorem mk64 : MK Try.prog 67 ekIII okIII := by
  refine mkDeep (m := 4) (n := 159) laidOut (by omega) (of_decide_eq_true (by kernel_rfl)) (by kernel_rfl) (by kernel_rfl) (by kernel_rfl) (by kernel_rfl) (fun k hk => ?_) injIII
  obtain ⟨h0, h1, h2⟩ := okIII_t hk
  exact ⟨by kernel_rfl, _, (kl_struct2 (cs := [.int .i64 k.1, .int .i64 k.2.1, .int .i64 k.2.2]) (c0 := [.int .i64 k.1, .int .i64 k.2.1]) (c1 := [.int .i64 k.2.2]) Try.underlying67 (by kernel_rfl) (by kernel_rfl) (by kernel_rfl) (by kernel_rfl) (kl_struct2 (cs := [.int .i64 k.1, .int .i64 k.2.1]) (c0 := [.int .i64 k.1]) (c1 := [.int .i64 k.2.1]) Try.underlying29 (by kernel_rfl) (by kernel_rfl) (by kernel_rfl) (by kernel_rfl) (kl_int Try.underlying2 h0) (kl_int Try.underlying2 h1)) (kl_int Try.underlying3 h2))⟩
theorem mp64 : MpTy Try.prog 64 67 2 (kI 0) := ⟨Try.underlying64, by kernel_rfl⟩
theorem mk84 : MK Try.prog 110 ekIIBIIB okIIBIIB := by
  refine mkDeep (m := 4) (n := 159) laidOut (by omega) (of_decide_eq_true (by kernel_rfl)) (by kernel_rfl) (by kernel_rfl) (by kernel_rfl) (by kernel_rfl) (fun k hk => ?_) injIIBIIB
  obtain ⟨h0, h1, h2, h3⟩ := okIIBIIB_t hk
  exact ⟨by kernel_rfl, _, (kl_array2 (cs := [.int .i64 k.1, .int .i64 k.2.1, .bool k.2.2.1, .int .i64 k.2.2.2.1, .int .i64 k.2.2.2.2.1, .bool k.2.2.2.2.2]) (c0 := [.int .i64 k.1, .int .i64 k.2.1, .bool k.2.2.1]) (c1 := [.int .i64 k.2.2.2.1, .int .i64 k.2.2.2.2.1, .bool k.2.2.2.2.2]) Try.underlying110 (by kernel_rfl) (by kernel_rfl) (by kernel_rfl) (kl_struct2 (cs := [.int .i64 k.1, .int .i64 k.2.1, .bool k.2.2.1]) (c0 := [.int .i64 k.1, .int .i64 k.2.1]) (c1 := [.bool k.2.2.1]) Try.underlying92 (by kernel_rfl) (by kernel_rfl) (by kernel_rfl) (by kernel_rfl) (kl_struct2 (cs := [.int .i64 k.1, .int .i64 k.2.1]) (c0 := [.int .i64 k.1]) (c1 := [.int .i64 k.2.1]) Try.underlying29 (by kernel_rfl) (by kernel_rfl) (by kernel_rfl) (by kernel_rfl) (kl_int Try.underlying2 h0) (kl_int Try.underlying2 h1)) (kl_bool Try.underlying4)) (kl_struct2 (cs := [.int .i64 k.2.2.2.1, .int .i64 k.2.2.2.2.1, .bool k.2.2.2.2.2]) (c0 := [.int .i64 k.2.2.2.1, .int .i64 k.2.2.2.2.1]) (c1 := [.bool k.2.2.2.2.2]) Try.underlying92 (by kernel_rfl) (by kernel_rfl) (by kernel_rfl) (by kernel_rfl) (kl_struct2 (cs := [.int .i64 k.2.2.2.1, .int .i64 k.2.2.2.2.1]) (c0 := [.int .i64 k.2.2.2.1]) (c1 := [.int .i64 k.2.2.2.2.1]) Try.underlying29 (by kernel_rfl) (by kernel_rfl) (by kernel_rfl) (by kernel_rfl) (kl_int Try.underlying2 h2) (kl_int Try.underlying2 h3)) (kl_bool Try.underlying4)))⟩
theorem mp84 : MpTy Try.prog 84 110 4 (vB false) := ⟨Try.underlying84, by kernel_rfl⟩
theorem mk87 : MK Try.prog 92 ekIIB okIIB := by
  refine mkDeep (m := 4) (n := 159) laidOut (by omega) (of_decide_eq_true (by kernel_rfl)) (by kernel_rfl) (by kernel_rfl) (by kernel_rfl) (by kernel_rfl) (fun k hk => ?_) injIIB
  obtain ⟨h0, h1⟩ := okIIB_t hk
  exact ⟨by kernel_rfl, _, (kl_struct2 (cs := [.int .i64 k.1, .int .i64 k.2.1, .bool k.2.2]) (c0 := [.int .i64 k.1, .int .i64 k.2.1]) (c1 := [.bool k.2.2]) Try.underlying92 (by kernel_rfl) (by kernel_rfl) (by kernel_rfl) (by kernel_rfl) (kl_struct2 (cs := [.int .i64 k.1, .int .i64 k.2.1]) (c0 := [.int .i64 k.1]) (c1 := [.int .i64 k.2.1]) Try.underlying29 (by kernel_rfl) (by kernel_rfl) (by kernel_rfl) (by kernel_rfl) (kl_int Try.underlying2 h0) (kl_int Try.underlying2 h1)) (kl_bool Try.underlying4))⟩
theorem mp87 : MpTy Try.prog 87 92 92 (ekIIB (0, 0, false)) := ⟨Try.underlying87, by kernel_rfl⟩
theorem eq92 : ∃ f0 f1 g0 g1, EqTyG Try.prog 92 f0 f1 g0 g1 := ⟨_, _, _, _, Try.underlying92, by kernel_rfl, by kernel_rfl, by kernel_rfl, fun w => pureRun_run (by kernel_rfl) w, fun w => pureRun_run (by kernel_rfl) w, fun w => pureRun_run (by kernel_rfl) w, rfl, rfl, ⟨Try.underlying29, by kernel_rfl, by kernel_rfl, by kernel_rfl, fun w => pureRun_run (by kernel_rfl) w, fun w => pureRun_run (by kernel_rfl) w, rfl, rfl, Try.underlying2, Try.underlying2, by kernel_rfl⟩, Try.underlying4, by kernel_rfl⟩
theorem sz67 : pureRun Try.prog (sizeOf 67) = some 3 := by kernel_rfl
theorem sz86 : pureRun Try.prog (sizeOf 86) = some 6 := by kernel_rfl
theorem sz92 : pureRun Try.prog (sizeOf 92) = some 3 := by kernel_rfl

set_option maxRecDepth 100000 in
/-- impl.flow).room -/
theorem c_impl_flow_room_bimplflow_bimplMaze {w0 : World} {l0_0_0 : List (List (Int))} {A0_0_0 : Option Addr} {cap0_0_0 : Nat} {fp0_0_0 : List Nat} {b0_0 : Nat} {q0_1 : Int} {q0_2 : Int} {q0_3 : Int} {q0_4 : Int} {l0_5 : List ((Int × Int × Bool × Int × Int × Bool) × Bool)} {b0_5 : Nat} {b0 : Nat} {p1_0 : Int} {p1_1 : Int} {p1_2 : Bool} {p2_0 : Int} {p2_1 : Int} {p2_2 : Bool} {r : (Bool)} (hm : m_impl_flow_room_bimplflow_bimplMaze l0_0_0 q0_1 q0_2 q0_3 q0_4 l0_5 p1_0 p1_1 p1_2 p2_0 p2_1 p2_2 = some r) (F0_0_0 : SlR 1 encI w0 fp0_0_0 A0_0_0 l0_0_0) (F0_0 : Cl w0 b0_0 26 [.slice A0_0_0 (l0_0_0).length cap0_0_0]) (F0_5 : Mp okIIBIIB ekIIBIIB vB w0 b0_5 l0_5) (F0 : Cl w0 b0 86 [.pointer (some ⟨b0_0, 0, none⟩), .int .i64 (q0_1), .int .i64 (q0_2), .int .i64 (q0_3), .int .i64 (q0_4), .map (some b0_5)]) :
  Calls Try.prog 67 #[.pointer (some ⟨b0, 0, none⟩), .agg #[.int .i64 (p1_0), .int .i64 (p1_1), .bool (p1_2)], .agg #[.int .i64 (p2_0), .int .i64 (p2_1), .bool (p2_2)]] w0 fun e w' => e = .returned (.bool (r)) ∧ Chg [] w0 w' := by
 have L0_0_0 := F0_0_0.low
 have L0_0 := lt1 F0_0.lt
 have L0_5 := F0_5.low
 have L0 := lt1 F0.lt
 have hB : Chg [] w0 w0 := Chg.refl _ _
 have hZ := Nat.le_refl w0.heap.size
 unfold m_impl_flow_room_bimplflow_bimplMaze at hm
 refine enterE (N := 58) Try.func67 (by rfl) Try.ntmps67 (by simp) [(0, .pointer (some ⟨b0, 0, none⟩)), (1, .agg #[.int .i64 (p1_0), .int .i64 (p1_1), .bool (p1_2)]), (2, .agg #[.int .i64 (p2_0), .int .i64 (p2_1), .bool (p2_2)])] (by rfl) (by kernel_rfl) (fun a => ?_)
 refine cW_seq ?_
 refine cW_region ?_
 refine wS_box (d := 4) (T := 92) (x := .agg #[.int .i64 (p1_0), .int .i64 (p1_1), .bool (p1_2)]) (by kernel_rfl) ?_
 intro b1 w1 G1 F1 hc1
 replace F1 : Cl w1 b1 92 [.int .i64 (p1_0), .int .i64 (p1_1), .bool (p1_2)] := F1
 replace F0_0_0 := F0_0_0.chg hc1 Dj.nil
 replace F0_0 := F0_0.chg hc1 notNil
 replace F0_5 := F0_5.chg hc1 Dj.nil
 replace F0 := F0.chg hc1 notNil
 replace hB := hB.inS hc1 inNil
 replace G1 := Nat.le_trans hZ G1
 replace hZ := Nat.le_trans hZ hc1.size
 refine wS_box (d := 5) (T := 92) (x := .agg #[.int .i64 (p2_0), .int .i64 (p2_1), .bool (p2_2)]) (by kernel_rfl) ?_
 intro b2 w2 G2 F2 hc2
 replace F2 : Cl w2 b2 92 [.int .i64 (p2_0), .int .i64 (p2_1), .bool (p2_2)] := F2
 have D1 : Dj [b1] [b2] := Dj.of (lt1 F1.lt) (low1 G2)
 replace F0_0_0 := F0_0_0.chg hc2 Dj.nil
 replace F0_0 := F0_0.chg hc2 notNil
 replace F0_5 := F0_5.chg hc2 Dj.nil
 replace F0 := F0.chg hc2 notNil
 replace F1 := F1.chg hc2 notNil
 replace hB := hB.inS hc2 inNil
 replace G2 := Nat.le_trans hZ G2
 replace hZ := Nat.le_trans hZ hc2.size
 refine wS_pure 1 [(6, .bool (false))] (by kernel_rfl) ?_
 refine wS_end (by rfl) ?_
 refine eX_then ?_
 refine cW_seq ?_
 refine cW_seq ?_
 refine cW_drawnTail [] 7 (by kernel_rfl) (by kernel_rfl) (fun w3 hc3 => ?_)
 replace F0_0_0 := F0_0_0.chg hc3 Dj.nil
 replace F0_0 := F0_0.chg hc3 notNil
 replace F0_5 := F0_5.chg hc3 Dj.nil
 replace F0 := F0.chg hc3 notNil
 replace F1 := F1.chg hc3 notNil
 replace F2 := F2.chg hc3 notNil
 replace hB := hB.inS hc3 inNil
 replace hZ := Nat.le_trans hZ hc3.size
 have hS := Chg.refl [] w3
 have Z1 := F0_0_0
 have Z2 := F0_0
 have Z3 := F0_5
 have Z4 := F0
 have Z5 := F1
 have Z6 := F2
 refine wH_take [0, 1, 2] [2, 1, 0] [(9, .pointer (some ⟨b0, 5, none⟩)), (8, .pointer (some ⟨b0, 0, none⟩)), (7, .pointer (some ⟨b0, 0, none⟩))] (by kernel_rfl) (qT (qT (qT qZ))) (by kernel_rfl) ?_
 refine wH_load1 (i := 3) (d := 10) (T := 84) (ad := ⟨b0, 5, none⟩) (v := .map (some b0_5)) (by kernel_rfl) (qT (qT (qT qZ))) (by kernel_rfl) (by kernel_rfl) vt84 (fun W hW => (Z4.chg hW notNil).cell 5) ?_
 refine wH_loadA (i := 4) (d := 11) (T := 92) (ad := ⟨b2, 0, none⟩) (vs := [.int .i64 (p2_0), .int .i64 (p2_1), .bool (p2_2)]) (by kernel_rfl) (qT (qT (qT qZ))) (by kernel_rfl) (by kernel_rfl) vt92 (fun W hW i u hu => box_cells (Z6.chg hW notNil) 0 hu (by rfl)) ?_
 refine wH_loadA (i := 5) (d := 12) (T := 92) (ad := ⟨b1, 0, none⟩) (vs := [.int .i64 (p1_0), .int .i64 (p1_1), .bool (p1_2)]) (by kernel_rfl) (qT (qT (qT qZ))) (by kernel_rfl) (by kernel_rfl) vt92 (fun W hW i u hu => box_cells (Z5.chg hW notNil) 0 hu (by rfl)) ?_
 refine wH_take [6] [6, 5, 4, 3, 2, 1, 0] [(13, .agg #[.int .i64 (p2_0), .int .i64 (p2_1), .bool (p2_2), .int .i64 (p1_0), .int .i64 (p1_1), .bool (p1_2)])] (by kernel_rfl) (qT (qT (qT qZ))) (by kernel_rfl) ?_
 refine wH_done (by kernel_rfl) ?_
 refine eX_tail ?_
 obtain ⟨y1, hy1, hm⟩ := bindE hm
 refine wS_look (k := (p2_0, p2_1, p2_2, p1_0, p1_1, p1_2)) (d := 14) (T := 84) (by kernel_rfl) mk84 mp84 F0_5 hy1 ?_
 refine wS_end (by rfl) ?_
 refine eX_then ?_
 refine cW_cond (t := y1) (by kernel_rfl) (fun hb1 => ?_) (fun hb1 => ?_)
 ·have hm := condT hb1 hm
  refine cW_seq ?_
  refine cW_region ?_
  refine wS_pure 1 [(6, .bool (true))] (by kernel_rfl) ?_
  refine wS_end (by rfl) ?_
  refine eX_then ?_
  refine cW_ret ?_
  refine eX_then_ret ?_
  have hq : (some true : Option ((Bool))) = some _ := hm
  replace hq := someE hq
  subst hq
  refine eX_ret (vs := [.bool (true)]) [.tmp 6] (by rfl) ⟨by (show lkE _ _ _ = _); kernel_rfl, trivial⟩ ?_
  exact ⟨rfl, hB⟩
 ·have hm := condF hb1 hm
  refine cW_skip ?_
  refine eX_then ?_
  refine cW_seq ?_
  refine cW_seq ?_
  refine cW_drawnTail [] 7 (by kernel_rfl) (by kernel_rfl) (fun w4 hc4 => ?_)
  replace F0_0_0 := F0_0_0.chg hc4 Dj.nil
  replace F0_0 := F0_0.chg hc4 notNil
  replace F0_5 := F0_5.chg hc4 Dj.nil
  replace F0 := F0.chg hc4 notNil
  replace F1 := F1.chg hc4 notNil
  replace F2 := F2.chg hc4 notNil
  replace hB := hB.inS hc4 inNil
  replace hZ := Nat.le_trans hZ hc4.size
  have hS := Chg.refl [] w4
  have Z7 := F0_0_0
  have Z8 := F0_0
  have Z9 := F0_5
  have Z10 := F0
  have Z11 := F1
  have Z12 := F2
  refine wH_take [0, 1, 2] [2, 1, 0] [(17, .pointer (some ⟨b0, 5, none⟩)), (16, .pointer (some ⟨b0, 0, none⟩)), (15, .pointer (some ⟨b0, 0, none⟩))] (by kernel_rfl) (qT (qT (qT qZ))) (by kernel_rfl) ?_
  refine wH_load1 (i := 3) (d := 18) (T := 84) (ad := ⟨b0, 5, none⟩) (v := .map (some b0_5)) (by kernel_rfl) (qT (qT (qT qZ))) (by kernel_rfl) (by kernel_rfl) vt84 (fun W hW => (Z10.chg hW notNil).cell 5) ?_
  refine wH_loadA (i := 4) (d := 19) (T := 92) (ad := ⟨b1, 0, none⟩) (vs := [.int .i64 (p1_0), .int .i64 (p1_1), .bool (p1_2)]) (by kernel_rfl) (qT (qT (qT qZ))) (by kernel_rfl) (by kernel_rfl) vt92 (fun W hW i u hu => box_cells (Z11.chg hW notNil) 0 hu (by rfl)) ?_
  refine wH_loadA (i := 5) (d := 20) (T := 92) (ad := ⟨b2, 0, none⟩) (vs := [.int .i64 (p2_0), .int .i64 (p2_1), .bool (p2_2)]) (by kernel_rfl) (qT (qT (qT qZ))) (by kernel_rfl) (by kernel_rfl) vt92 (fun W hW i u hu => box_cells (Z12.chg hW notNil) 0 hu (by rfl)) ?_
  refine wH_take [6] [6, 5, 4, 3, 2, 1, 0] [(21, .agg #[.int .i64 (p1_0), .int .i64 (p1_1), .bool (p1_2), .int .i64 (p2_0), .int .i64 (p2_1), .bool (p2_2)])] (by kernel_rfl) (qT (qT (qT qZ))) (by kernel_rfl) ?_
  refine wH_done (by kernel_rfl) ?_
  refine eX_tail ?_
  obtain ⟨y2, hy2, hm⟩ := bindE hm
  refine wS_look (k := (p1_0, p1_1, p1_2, p2_0, p2_1, p2_2)) (d := 22) (T := 84) (by kernel_rfl) mk84 mp84 F0_5 hy2 ?_
  refine wS_end (by rfl) ?_
  refine eX_then ?_
  refine cW_cond (t := y2) (by kernel_rfl) (fun hb2 => ?_) (fun hb2 => ?_)
  ·have hm := condT hb2 hm
   refine cW_seq ?_
   refine cW_drawnTail [] 18 (by kernel_rfl) (by kernel_rfl) (fun w5 hc5 => ?_)
   replace F0_0_0 := F0_0_0.chg hc5 Dj.nil
   replace F0_0 := F0_0.chg hc5 notNil
   replace F0_5 := F0_5.chg hc5 Dj.nil
   replace F0 := F0.chg hc5 notNil
   replace F1 := F1.chg hc5 notNil
   replace F2 := F2.chg hc5 notNil
   replace hB := hB.inS hc5 inNil
   replace hZ := Nat.le_trans hZ hc5.size
   have hS := Chg.refl [] w5
   have Z13 := F0_0_0
   have Z14 := F0_0
   have Z15 := F0_5
   have Z16 := F0
   have Z17 := F1
   have Z18 := F2
   refine wH_take [0] [0] [(23, .pointer (some ⟨b1, 2, none⟩))] (by kernel_rfl) (qT (qT (qT qZ))) (by kernel_rfl) ?_
   refine wH_load1 (i := 1) (d := 24) (T := 4) (ad := ⟨b1, 2, none⟩) (v := .bool (p1_2)) (by kernel_rfl) (qT (qT (qT qZ))) (by kernel_rfl) (by kernel_rfl) vt4 (fun W hW => (Z17.chg hW notNil).cell 2) ?_
   refine wH_take [2] [2, 1, 0] [(25, .bool (p1_2))] (by kernel_rfl) (qT (qT (qT qZ))) (by kernel_rfl) ?_
   refine wH_bool p1_2 (fun hb3 => ?_) (fun hb3 => ?_)
   ·have hm := condT hb3 hm
    rewrite [hb3]
    refine wH_take [3, 4, 5, 6, 7, 8, 9, 10, 11, 12, 13, 14, 15, 16, 17] [17, 16, 15, 14, 13, 12, 11, 10, 9, 8, 7, 6, 5, 4, 3, 2, 1, 0] [(40, undef), (39, undef), (38, undef), (37, undef), (36, undef), (35, undef), (34, .bool (true)), (33, .bool (true)), (32, undef), (31, undef), (30, undef), (29, undef), (28, undef), (27, undef), (26, undef)] (by kernel_rfl) (qT (qT (qT qZ))) (by kernel_rfl) ?_
    refine wH_done (by kernel_rfl) ?_
    refine eX_tail ?_
    refine wS_pure 3 [(6, .bool (true)), (42, .bool (true)), (41, undef)] (by kernel_rfl) ?_
    refine wS_end (by rfl) ?_
    refine eX_then ?_
    refine cW_prune [(6, .bool (true))] (by kernel_rfl) (by kernel_rfl) (fun a1 => ?_)
    refine cW_ret ?_
    refine eX_then_ret ?_
    have hq : (some true : Option ((Bool))) = some _ := hm
    replace hq := someE hq
    subst hq
    refine eX_ret (vs := [.bool (true)]) [.tmp 6] (by rfl) ⟨by (show lkE _ _ _ = _); kernel_rfl, trivial⟩ ?_
    exact ⟨rfl, hB⟩
   ·have hm := condF hb3 hm
    rewrite [hb3]
    refine wH_take [3] [3, 2, 1, 0] [(26, .pointer (some ⟨b1, 0, none⟩))] (by kernel_rfl) (qT (qT (qT qZ))) (by kernel_rfl) ?_
    refine wH_loadA (i := 4) (d := 27) (T := 29) (ad := ⟨b1, 0, none⟩) (vs := [.int .i64 (p1_0), .int .i64 (p1_1)]) (by kernel_rfl) (qT (qT (qT qZ))) (by kernel_rfl) (by kernel_rfl) vt29 (fun W hW i u hu => box_cells (Z17.chg hW notNil) 0 hu (by rfl)) ?_
    refine wH_take [5, 6, 7] [7, 6, 5, 4, 3, 2, 1, 0] [(30, .pointer (some ⟨b0, 1, none⟩)), (29, .pointer (some ⟨b0, 0, none⟩)), (28, .pointer (some ⟨b0, 0, none⟩))] (by kernel_rfl) (qT (qT (qT qZ))) (by kernel_rfl) ?_
    refine wH_loadA (i := 8) (d := 31) (T := 29) (ad := ⟨b0, 1, none⟩) (vs := [.int .i64 (q0_1), .int .i64 (q0_2)]) (by kernel_rfl) (qT (qT (qT qZ))) (by kernel_rfl) (by kernel_rfl) vt29 (fun W hW i u hu => box_cells (Z16.chg hW notNil) 1 hu (by rfl)) ?_
    refine wH_eqS (i := 9) (d := 32) (T := 29) (x := p1_0) (y := p1_1) (x' := q0_1) (y' := q0_2) (by kernel_rfl) (qT (qT (qT qZ))) (by kernel_rfl) (by kernel_rfl) eq29 ?_
    refine wH_take [10, 11] [11, 10, 9, 8, 7, 6, 5, 4, 3, 2, 1, 0] [(34, .bool (p1_0 == q0_1 && p1_1 == q0_2)), (33, .bool (p1_0 == q0_1 && p1_1 == q0_2))] (by kernel_rfl) (qT (qT (qT qZ))) (by kernel_rfl) ?_
    refine wH_bool (p1_0 == q0_1 && p1_1 == q0_2) (fun hb4 => ?_) (fun hb4 => ?_)
    ·have hm := condT hb4 hm
     rewrite [hb4]
     refine wH_take [12, 13, 14, 15, 16, 17] [17, 16, 15, 14, 13, 12, 11, 10, 9, 8, 7, 6, 5, 4, 3, 2, 1, 0] [(40, undef), (39, undef), (38, undef), (37, undef), (36, undef), (35, undef)] (by kernel_rfl) (qT (qT (qT qZ))) (by kernel_rfl) ?_
     refine wH_done (by kernel_rfl) ?_
     refine eX_tail ?_
     refine wS_pure 3 [(6, .bool (true)), (42, .bool (true)), (41, undef)] (by kernel_rfl) ?_
     refine wS_end (by rfl) ?_
     refine eX_then ?_
     refine cW_prune [(6, .bool (true))] (by kernel_rfl) (by kernel_rfl) (fun a2 => ?_)
     refine cW_ret ?_
     refine eX_then_ret ?_
     have hq : (some true : Option ((Bool))) = some _ := hm
     replace hq := someE hq
     subst hq
     refine eX_ret (vs := [.bool (true)]) [.tmp 6] (by rfl) ⟨by (show lkE _ _ _ = _); kernel_rfl, trivial⟩ ?_
     exact ⟨rfl, hB⟩
    ·have hm := condF hb4 hm
     rewrite [hb4]
     refine wH_take [12] [12, 11, 10, 9, 8, 7, 6, 5, 4, 3, 2, 1, 0] [(35, .pointer (some ⟨b1, 0, none⟩))] (by kernel_rfl) (qT (qT (qT qZ))) (by kernel_rfl) ?_
     refine wH_loadA (i := 13) (d := 36) (T := 29) (ad := ⟨b1, 0, none⟩) (vs := [.int .i64 (p1_0), .int .i64 (p1_1)]) (by kernel_rfl) (qT (qT (qT qZ))) (by kernel_rfl) (by kernel_rfl) vt29 (fun W hW i u hu => box_cells (Z17.chg hW notNil) 0 hu (by rfl)) ?_
     refine wH_take [14, 15, 16] [16, 15, 14, 13, 12, 11, 10, 9, 8, 7, 6, 5, 4, 3, 2, 1, 0] [(39, .pointer (some ⟨b0, 3, none⟩)), (38, .pointer (some ⟨b0, 0, none⟩)), (37, .pointer (some ⟨b0, 0, none⟩))] (by kernel_rfl) (qT (qT (qT qZ))) (by kernel_rfl) ?_
     refine wH_loadA (i := 17) (d := 40) (T := 29) (ad := ⟨b0, 3, none⟩) (vs := [.int .i64 (q0_3), .int .i64 (q0_4)]) (by kernel_rfl) (qT (qT (qT qZ))) (by kernel_rfl) (by kernel_rfl) vt29 (fun W hW i u hu => box_cells (Z16.chg hW notNil) 3 hu (by rfl)) ?_
     refine wH_done (by kernel_rfl) ?_
     refine eX_tail ?_
     refine wS_eqS (d := 41) (T := 29) (x := p1_0) (y := p1_1) (x' := q0_3) (y' := q0_4) (by kernel_rfl) eq29 ?_
     refine wS_pure 2 [(6, .bool (p1_0 == q0_3 && p1_1 == q0_4)), (42, .bool (p1_0 == q0_3 && p1_1 == q0_4))] (by kernel_rfl) ?_
     refine wS_end (by rfl) ?_
     refine eX_then ?_
     refine cW_prune [(6, .bool (p1_0 == q0_3 && p1_1 == q0_4))] (by kernel_rfl) (by kernel_rfl) (fun a3 => ?_)
     refine cW_ret ?_
     refine eX_then_ret ?_
     have hq : (some (p1_0 == q0_3 && p1_1 == q0_4) : Option ((Bool))) = some _ := hm
     replace hq := someE hq
     subst hq
     refine eX_ret (vs := [.bool (p1_0 == q0_3 && p1_1 == q0_4)]) [.tmp 6] (by rfl) ⟨by (show lkE _ _ _ = _); kernel_rfl, trivial⟩ ?_
     exact ⟨rfl, hB⟩
  ·have hm := condF hb2 hm
   refine cW_skip ?_
   refine eX_then ?_
   refine cW_seq ?_
   refine cW_drawnTail [] 13 (by kernel_rfl) (by kernel_rfl) (fun w6 hc6 => ?_)
   replace F0_0_0 := F0_0_0.chg hc6 Dj.nil
   replace F0_0 := F0_0.chg hc6 notNil
   replace F0_5 := F0_5.chg hc6 Dj.nil
   replace F0 := F0.chg hc6 notNil
   replace F1 := F1.chg hc6 notNil
   replace F2 := F2.chg hc6 notNil
   replace hB := hB.inS hc6 inNil
   replace hZ := Nat.le_trans hZ hc6.size
   have hS := Chg.refl [] w6
   have Z19 := F0_0_0
   have Z20 := F0_0
   have Z21 := F0_5
   have Z22 := F0
   have Z23 := F1
   have Z24 := F2
   refine wH_take [0] [0] [(43, .pointer (some ⟨b1, 2, none⟩))] (by kernel_rfl) (qT (qT qZ)) (by kernel_rfl) ?_
   refine wH_load1 (i := 1) (d := 44) (T := 4) (ad := ⟨b1, 2, none⟩) (v := .bool (p1_2)) (by kernel_rfl) (qT (qT qZ)) (by kernel_rfl) (by kernel_rfl) vt4 (fun W hW => (Z23.chg hW notNil).cell 2) ?_
   refine wH_take [2] [2, 1, 0] [(45, .pointer (some ⟨b2, 2, none⟩))] (by kernel_rfl) (qT (qT qZ)) (by kernel_rfl) ?_
   refine wH_load1 (i := 3) (d := 46) (T := 4) (ad := ⟨b2, 2, none⟩) (v := .bool (p2_2)) (by kernel_rfl) (qT (qT qZ)) (by kernel_rfl) (by kernel_rfl) vt4 (fun W hW => (Z24.chg hW notNil).cell 2) ?_
   refine wH_take [4, 5] [5, 4, 3, 2, 1, 0] [(48, .bool (!(p1_2 == p2_2))), (47, .bool (!(p1_2 == p2_2)))] (by kernel_rfl) (qT (qT qZ)) (by kernel_rfl) ?_
   refine wH_bool (!(p1_2 == p2_2)) (fun hb5 => ?_) (fun hb5 => ?_)
   ·have hm := condT hb5 hm
    rewrite [hb5]
    refine wH_take [6] [6, 5, 4, 3, 2, 1, 0] [(49, .pointer (some ⟨b1, 0, none⟩))] (by kernel_rfl) (qT (qT qZ)) (by kernel_rfl) ?_
    refine wH_loadA (i := 7) (d := 50) (T := 29) (ad := ⟨b1, 0, none⟩) (vs := [.int .i64 (p1_0), .int .i64 (p1_1)]) (by kernel_rfl) (qT (qT qZ)) (by kernel_rfl) (by kernel_rfl) vt29 (fun W hW i u hu => box_cells (Z23.chg hW notNil) 0 hu (by rfl)) ?_
    refine wH_take [8] [8, 7, 6, 5, 4, 3, 2, 1, 0] [(51, .pointer (some ⟨b2, 0, none⟩))] (by kernel_rfl) (qT (qT qZ)) (by kernel_rfl) ?_
    refine wH_loadA (i := 9) (d := 52) (T := 29) (ad := ⟨b2, 0, none⟩) (vs := [.int .i64 (p2_0), .int .i64 (p2_1)]) (by kernel_rfl) (qT (qT qZ)) (by kernel_rfl) (by kernel_rfl) vt29 (fun W hW i u hu => box_cells (Z24.chg hW notNil) 0 hu (by rfl)) ?_
    refine wH_eqS (i := 10) (d := 53) (T := 29) (x := p1_0) (y := p1_1) (x' := p2_0) (y' := p2_1) (by kernel_rfl) (qT (qT qZ)) (by kernel_rfl) (by kernel_rfl) eq29 ?_
    refine wH_take [11] [11, 10, 9, 8, 7, 6, 5, 4, 3, 2, 1, 0] [(54, .pointer (some ⟨b2, 2, none⟩))] (by kernel_rfl) (qT (qT qZ)) (by kernel_rfl) ?_
    refine wH_load1 (i := 12) (d := 55) (T := 4) (ad := ⟨b2, 2, none⟩) (v := .bool (p2_2)) (by kernel_rfl) (qT (qT qZ)) (by kernel_rfl) (by kernel_rfl) vt4 (fun W hW => (Z24.chg hW notNil).cell 2) ?_
    refine wH_done (by kernel_rfl) ?_
    refine eX_tail ?_
    refine wS_pure 3 [(6, .bool ((p1_0 == p2_0 && p1_1 == p2_1) == p2_2)), (57, .bool ((p1_0 == p2_0 && p1_1 == p2_1) == p2_2)), (56, .bool ((p1_0 == p2_0 && p1_1 == p2_1) == p2_2))] (by kernel_rfl) ?_
    refine wS_end (by rfl) ?_
    refine eX_then ?_
    refine cW_prune [(6, .bool ((p1_0 == p2_0 && p1_1 == p2_1) == p2_2))] (by kernel_rfl) (by kernel_rfl) (fun a4 => ?_)
    refine cW_ret ?_
    have hq : (some ((p1_0 == p2_0 && p1_1 == p2_1) == p2_2) : Option ((Bool))) = some _ := hm
    replace hq := someE hq
    subst hq
    refine eX_ret (vs := [.bool ((p1_0 == p2_0 && p1_1 == p2_1) == p2_2)]) [.tmp 6] (by rfl) ⟨by (show lkE _ _ _ = _); kernel_rfl, trivial⟩ ?_
    exact ⟨rfl, hB⟩
   ·have hm := condF hb5 hm
    rewrite [hb5]
    refine wH_take [6, 7, 8, 9, 10, 11, 12] [12, 11, 10, 9, 8, 7, 6, 5, 4, 3, 2, 1, 0] [(55, undef), (54, undef), (53, undef), (52, undef), (51, undef), (50, undef), (49, undef)] (by kernel_rfl) (qT (qT qZ)) (by kernel_rfl) ?_
    refine wH_done (by kernel_rfl) ?_
    refine eX_tail ?_
    refine wS_pure 3 [(6, .bool (false)), (57, .bool (false)), (56, undef)] (by kernel_rfl) ?_
    refine wS_end (by rfl) ?_
    refine eX_then ?_
    refine cW_prune [(6, .bool (false))] (by kernel_rfl) (by kernel_rfl) (fun a5 => ?_)
    refine cW_ret ?_
    have hq : (some false : Option ((Bool))) = some _ := hm
    replace hq := someE hq
    subst hq
    refine eX_ret (vs := [.bool (false)]) [.tmp 6] (by rfl) ⟨by (show lkE _ _ _ = _); kernel_rfl, trivial⟩ ?_
    exact ⟨rfl, hB⟩

set_option maxRecDepth 100000 in
/-- impl.flow).search -/
theorem c_impl_flow_search_bimplflow_bimplMaze {w0 : World} {l0_0_0 : List (List (Int))} {A0_0_0 : Option Addr} {cap0_0_0 : Nat} {fp0_0_0 : List Nat} {b0_0 : Nat} {q0_1 : Int} {q0_2 : Int} {q0_3 : Int} {q0_4 : Int} {l0_5 : List ((Int × Int × Bool × Int × Int × Bool) × Bool)} {b0_5 : Nat} {b0 : Nat} {r : (List ((Int × Int × Bool) × (Int × Int × Bool)))} (hm : m_impl_flow_search_bimplflow_bimplMaze l0_0_0 q0_1 q0_2 q0_3 q0_4 l0_5 = some r) (F0_0_0 : SlR 1 encI w0 fp0_0_0 A0_0_0 l0_0_0) (F0_0 : Cl w0 b0_0 26 [.slice A0_0_0 (l0_0_0).length cap0_0_0]) (F0_5 : Mp okIIBIIB ekIIBIIB vB w0 b0_5 l0_5) (F0 : Cl w0 b0 86 [.pointer (some ⟨b0_0, 0, none⟩), .int .i64 (q0_1), .int .i64 (q0_2), .int .i64 (q0_3), .int .i64 (q0_4), .map (some b0_5)]) :
  Calls Try.prog 47 #[.pointer (some ⟨b0, 0, none⟩)] w0 fun e w' => ∃ b100, e = .returned (.map (some b100)) ∧ Mp okIIB ekIIB ekIIB w' b100 r ∧ (∀ x ∈ [b100], w0.heap.size ≤ x) ∧ Chg [] w0 w' := by
 have L0_0_0 := F0_0_0.low
 have L0_0 := lt1 F0_0.lt
 have L0_5 := F0_5.low
 have L0 := lt1 F0.lt
 have hB : Chg [] w0 w0 := Chg.refl _ _
 have hZ := Nat.le_refl w0.heap.size
 unfold m_impl_flow_search_bimplflow_bimplMaze at hm
 refine enterE (N := 63) Try.func47 (by rfl) Try.ntmps47 (by simp) [(0, .pointer (some ⟨b0, 0, none⟩))] (by rfl) (by kernel_rfl) (fun a => ?_)
 refine cW_seq ?_
 refine cW_region ?_
 refine wS_pure 1 [(2, .map none)] (by kernel_rfl) ?_
 refine wS_end (by rfl) ?_
 refine eX_then ?_
 refine cW_seq ?_
 refine cW_region ?_
 refine wS_pure 3 [(12, .pointer (some ⟨b0, 1, none⟩)), (11, .pointer (some ⟨b0, 0, none⟩)), (10, .pointer (some ⟨b0, 0, none⟩))] (by kernel_rfl) ?_
 refine wS_loadA (d := 13) (T := 29) (ad := ⟨b0, 1, none⟩) (vs := [.int .i64 (q0_1), .int .i64 (q0_2)]) (by kernel_rfl) vt29 (fun i u hu => box_cells F0 1 hu (by rfl)) ?_
 refine wS_pure 1 [(14, .agg #[.int .i64 (q0_1), .int .i64 (q0_2), .bool (true)])] (by kernel_rfl) ?_
 refine wS_alloc (d := 3) (T := 92) (z := .agg #[.int .i64 (0), .int .i64 (0), .bool (false)]) (by kernel_rfl) (by kernel_rfl) ?_
 intro b1 w1 G1 F1 hc1
 replace F1 : Cl w1 b1 92 [.int .i64 (0), .int .i64 (0), .bool (false)] := F1
 replace F0_0_0 := F0_0_0.chg hc1 Dj.nil
 replace F0_0 := F0_0.chg hc1 notNil
 replace F0_5 := F0_5.chg hc1 Dj.nil
 replace F0 := F0.chg hc1 notNil
 replace hB := hB.inS hc1 inNil
 replace G1 := Nat.le_trans hZ G1
 replace hZ := Nat.le_trans hZ hc1.size
 refine wS_store (T := 92) (g := b1) (o := 0) (ad := ⟨b1, 0, none⟩) (v := .agg #[.int .i64 (q0_1), .int .i64 (q0_2), .bool (true)]) (vs := [.int .i64 (q0_1), .int .i64 (q0_2), .bool (true)]) (by kernel_rfl) (by rfl) sz92 (by rfl) (by rfl) F1 (by simp only [List.length_cons, List.length_nil]; omega) ?_
 intro w2 F2 hc2
 replace F0_0_0 := F0_0_0.chg hc2 (Dj.of L0_0_0 (low1 G1))
 replace F0_0 := F0_0.chg hc2 (dj1 (Dj.of L0_0 (low1 G1)))
 replace F0_5 := F0_5.chg hc2 (Dj.of L0_5 (low1 G1))
 replace F0 := F0.chg hc2 (dj1 (Dj.of L0 (low1 G1)))
 replace hB := hB.inS hc2 (inLow (low1 G1))
 replace hZ := Nat.le_trans hZ hc2.size
 replace F2 : Cl w2 b1 92 [.int .i64 (q0_1), .int .i64 (q0_2), .bool (true)] := F2
 clear F1
 refine wS_end (by rfl) ?_
 refine eX_then ?_
 refine cW_seq ?_
 refine cW_region ?_
 refine wS_makeMap (V := Int × Int × Bool) (d := 15) (T := 87) (by kernel_rfl) okIIB ekIIB ekIIB ?_
 intro b2 w3 G2 F3 hc3
 have D1 : Dj [b1] [b2] := Dj.of (lt1 F2.lt) (low1 G2)
 replace F0_0_0 := F0_0_0.chg hc3 Dj.nil
 replace F0_0 := F0_0.chg hc3 notNil
 replace F0_5 := F0_5.chg hc3 Dj.nil
 replace F0 := F0.chg hc3 notNil
 replace F2 := F2.chg hc3 notNil
 replace hB := hB.inS hc3 inNil
 replace G2 := Nat.le_trans hZ G2
 replace G2 := low1 G2
 replace hZ := Nat.le_trans hZ hc3.size
 refine wS_loadA (d := 16) (T := 92) (ad := ⟨b1, 0, none⟩) (vs := [.int .i64 (q0_1), .int .i64 (q0_2), .bool (true)]) (by kernel_rfl) vt92 (fun i u hu => box_cells F2 0 hu (by rfl)) ?_
 refine wS_loadA (d := 17) (T := 92) (ad := ⟨b1, 0, none⟩) (vs := [.int .i64 (q0_1), .int .i64 (q0_2), .bool (true)]) (by kernel_rfl) vt92 (fun i u hu => box_cells F2 0 hu (by rfl)) ?_
 obtain ⟨_, hk1, hm⟩ := bindE hm
 refine wS_mins (k := (q0_1, q0_2, true)) (x := (q0_1, q0_2, true)) (T := 87) (by kernel_rfl) rfl rfl mk87 mp87 F3 (mpE hk1) ?_
 intro w4 F4 hc4
 replace F0_0_0 := F0_0_0.chg hc4 (Dj.of L0_0_0 G2)
 replace F0_0 := F0_0.chg hc4 (dj1 (Dj.of L0_0 G2))
 replace F0_5 := F0_5.chg hc4 (Dj.of L0_5 G2)
 replace F0 := F0.chg hc4 (dj1 (Dj.of L0 G2))
 replace F2 := F2.chg hc4 (dj1 D1)
 replace hB := hB.inS hc4 (inLow G2)
 replace hZ := Nat.le_trans hZ hc4.size
 clear F3
 refine wS_pure 2 [(4, .map (some b2)), (18, .map (some b2))] (by kernel_rfl) ?_
 refine wS_end (by rfl) ?_
 refine eX_then ?_
 refine cW_seq ?_
 refine cW_seq ?_
 refine cW_region ?_
 refine wS_loadA (d := 19) (T := 92) (ad := ⟨b1, 0, none⟩) (vs := [.int .i64 (q0_1), .int .i64 (q0_2), .bool (true)]) (by kernel_rfl) vt92 (fun i u hu => box_cells F2 0 hu (by rfl)) ?_
 refine wS_bs (enc := encIIB) ([(q0_1, q0_2, true)] : List (Int × Int × Bool)) [.int .i64 (q0_1), .int .i64 (q0_2), .bool (true)] (d := 20) (t := 107) (T := 92) (n := 1) (ps := [(0, .agg #[.int .i64 (q0_1), .int .i64 (q0_2), .bool (true)])]) (by kernel_rfl) el107 encIIB_ok (by rfl) (by omega) (by omega) (by kernel_rfl) (by rfl) ?_
 intro b3 w5 G3 F5 hc5
 have D2 : Dj [b1] [b3] := Dj.of (lt1 F2.lt) (low1 G3)
 have D3 : Dj [b2] [b3] := Dj.of F4.low (low1 G3)
 replace F0_0_0 := F0_0_0.chg hc5 Dj.nil
 replace F0_0 := F0_0.chg hc5 notNil
 replace F0_5 := F0_5.chg hc5 Dj.nil
 replace F0 := F0.chg hc5 notNil
 replace F2 := F2.chg hc5 notNil
 replace F4 := F4.chg hc5 Dj.nil
 replace hB := hB.inS hc5 inNil
 replace G3 := Nat.le_trans hZ G3
 replace G3 := low1 G3
 replace hZ := Nat.le_trans hZ hc5.size
 refine wS_pure 1 [(5, .slice (some ⟨b3, 0, none⟩) (([(q0_1, q0_2, true)] : List (Int × Int × Bool))).length 1)] (by kernel_rfl) ?_
 refine wS_end (by rfl) ?_
 refine eX_then ?_
 obtain ⟨r1, hr1, hm⟩ := bindE hm
 have hm1 := hm
 refine cW_cut (fun a' w' => ∃ l1 : List ((Int × Int × Bool) × (Int × Int × Bool)), l1 = r1 ∧ Fr 63 [(4, .map (some b2))] a' ∧ Mp okIIB ekIIB ekIIB w' b2 l1 ∧ Chg [] w0 w' ∧ w0.heap.size ≤ w'.heap.size) ?_ ?_
 ·refine cW_block ?_
  refine cW_loop _ (fun (s1 : (List (Int × Int × Bool)) × (List ((Int × Int × Bool) × (Int × Int × Bool)))) a' w' => ∃ l3 : List (Int × Int × Bool), ∃ A1 : Option Addr, ∃ cap1 : Nat, ∃ fp1 : List Nat, ∃ l4 : List ((Int × Int × Bool) × (Int × Int × Bool)), (l3, l4) = s1 ∧ Fr 63 [(0, .pointer (some ⟨b0, 0, none⟩)), (4, .map (some b2)), (5, .slice A1 (l3).length cap1)] a' ∧ SlR 1 encI w' fp0_0_0 A0_0_0 l0_0_0 ∧ Cl w' b0_0 26 [.slice A0_0_0 (l0_0_0).length cap0_0_0] ∧ Mp okIIBIIB ekIIBIIB vB w' b0_5 l0_5 ∧ Cl w' b0 86 [.pointer (some ⟨b0_0, 0, none⟩), .int .i64 (q0_1), .int .i64 (q0_2), .int .i64 (q0_3), .int .i64 (q0_4), .map (some b0_5)] ∧ Mp okIIB ekIIB ekIIB w' b2 l4 ∧ OwO 3 encIIB 92 w' fp1 A1 cap1 l3 ∧ (∀ x ∈ fp1, w0.heap.size ≤ x) ∧ Dj [b2] fp1 ∧ Chg [] w0 w' ∧ w0.heap.size ≤ w'.heap.size) hr1 (fun hst => ⟨([(q0_1, q0_2, true)] : List (Int × Int × Bool)), (some ⟨b3, 0, none⟩), 1, [b3], mup (([] : List ((Int × Int × Bool) × (Int × Int × Bool)))) ((q0_1, q0_2, true)) ((q0_1, q0_2, true)), rfl, Fr.of hst (by kernel_rfl), F0_0_0, F0_0, F0_5, F0, F4, F5.off, G3, D3, hB, hZ⟩) ?_
  rintro _ c1 a' w6 ⟨l3, A1, cap1, fp1, l4, rfl, hF1, F6, F7, F8, F9, F10, F11, G4, D4, hB, hZ⟩ hx1
  refine Fr.goOn hF1 (by kernel_rfl) ?_
  have hm := hx1
  unfold m_impl_flow_search_bimplflow_bimplMaze_s3 at hm
  refine cW_seq ?_
  refine cW_seq ?_
  refine cW_region ?_
  refine wS_pure 3 [(23, .bool (decide ((((l3).length : Int)) > 0))), (22, .int .i64 (((l3).length : Int))), (21, .slice A1 (l3).length cap1)] (by kernel_rfl) ?_
  refine wS_end (by rfl) ?_
  refine eX_then ?_
  refine cW_cond (t := decide ((((l3).length : Int)) > 0)) (by kernel_rfl) (fun hb1 => ?_) (fun hb1 => ?_)
  ·have hm := condT hb1 hm
   refine cW_skip ?_
   refine eX_then ?_
   refine cW_seq ?_
   refine cW_block ?_
   refine cW_seq ?_
   refine cW_region ?_
   refine wS_pure 2 [(27, .slice A1 (l3).length cap1), (26, .pointer (some ⟨b0, 0, none⟩))] (by kernel_rfl) ?_
   obtain ⟨x1, hx2, hm⟩ := bindE hm
   refine wS_idx (d := 28) (T := 107) (A := A1) (n := (l3).length) (cap := cap1) (kd := .i64) (m := 0) (by kernel_rfl) sl107 ((F11.sl encIIB_ok).is hx2) ?_
   refine wS_loadA (d := 29) (T := 92) (ad := (elA A1 3 (0) 0)) (vs := [.int .i64 (x1.1), .int .i64 (x1.2.1), .bool (x1.2.2)]) (by kernel_rfl) vt92 (fun i u hu => Sl.cells_at (F11.sl encIIB_ok) hx2 0 hu (by rfl)) ?_
   obtain ⟨y1, hy1, hm⟩ := bindE hm
   refine wS_calls (d := 30) (f := 66) (vs := [.pointer (some ⟨b0, 0, none⟩), .agg #[.int .i64 (x1.1), .int .i64 (x1.2.1), .bool (x1.2.2)]]) (by kernel_rfl) ent66 (c_impl_flow_beside_bimplflow_bimplMaze hy1 F6 F7 F8 F9) ?_
   rintro _ w7 ⟨A3, cap3, fp2, rfl, F12, G5, hc6⟩
   have D5 : Dj [b2] fp2 := Dj.of F10.low G5
   have D6 : Dj fp1 fp2 := Dj.of F11.low G5
   replace F6 := F6.chg hc6 Dj.nil
   replace F7 := F7.chg hc6 notNil
   replace F8 := F8.chg hc6 Dj.nil
   replace F9 := F9.chg hc6 notNil
   replace F10 := F10.chg hc6 Dj.nil
   replace F11 := F11.chg hc6 Dj.nil
   replace hB := hB.inS hc6 inNil
   replace G5 := low_le hZ G5
   replace hZ := Nat.le_trans hZ hc6.size
   refine ⟨.slice A3 (y1).length cap3, rfl, ?_⟩
   refine wS_pure 2 [(32, .int .i64 (0)), (31, .int .i64 (((y1).length : Int)))] (by kernel_rfl) ?_
   refine wS_end (by rfl) ?_
   refine eX_then ?_
   obtain ⟨r2, hr2, hm⟩ := bindE hm
   have hm2 := hm
   refine cW_cut (fun a' w' => ∃ l5 : List (Int × Int × Bool), ∃ A4 : Option Addr, ∃ cap4 : Nat, ∃ fp3 : List Nat, ∃ l6 : List ((Int × Int × Bool) × (Int × Int × Bool)), (l5, l6) = r2 ∧ Fr 63 [(0, .pointer (some ⟨b0, 0, none⟩)), (4, .map (some b2)), (5, .slice A4 (l5).length cap4)] a' ∧ SlR 1 encI w' fp0_0_0 A0_0_0 l0_0_0 ∧ Cl w' b0_0 26 [.slice A0_0_0 (l0_0_0).length cap0_0_0] ∧ Mp okIIBIIB ekIIBIIB vB w' b0_5 l0_5 ∧ Cl w' b0 86 [.pointer (some ⟨b0_0, 0, none⟩), .int .i64 (q0_1), .int .i64 (q0_2), .int .i64 (q0_3), .int .i64 (q0_4), .map (some b0_5)] ∧ Mp okIIB ekIIB ekIIB w' b2 l6 ∧ OwO 3 encIIB 92 w' fp3 A4 cap4 l5 ∧ (∀ x ∈ fp3, w0.heap.size ≤ x) ∧ Dj [b2] fp3 ∧ Chg [] w0 w' ∧ w0.heap.size ≤ w'.heap.size) ?_ ?_
   ·refine cW_block ?_
    refine cW_loop _ (fun (s2 : (List (Int × Int × Bool)) × Int × (List ((Int × Int × Bool) × (Int × Int × Bool)))) a' w' => ∃ l7 : List (Int × Int × Bool), ∃ A5 : Option Addr, ∃ cap5 : Nat, ∃ fp4 : List Nat, ∃ x2 : Int, ∃ l8 : List ((Int × Int × Bool) × (Int × Int × Bool)), (l7, x2, l8) = s2 ∧ Fr 63 [(0, .pointer (some ⟨b0, 0, none⟩)), (4, .map (some b2)), (5, .slice A5 (l7).length cap5), (30, .slice A3 (y1).length cap3), (31, .int .i64 (((y1).length : Int))), (32, .int .i64 (x2))] a' ∧ SlR 1 encI w' fp0_0_0 A0_0_0 l0_0_0 ∧ Cl w' b0_0 26 [.slice A0_0_0 (l0_0_0).length cap0_0_0] ∧ Mp okIIBIIB ekIIBIIB vB w' b0_5 l0_5 ∧ Cl w' b0 86 [.pointer (some ⟨b0_0, 0, none⟩), .int .i64 (q0_1), .int .i64 (q0_2), .int .i64 (q0_3), .int .i64 (q0_4), .map (some b0_5)] ∧ Mp okIIB ekIIB ekIIB w' b2 l8 ∧ Ow 3 encIIB 92 w' fp2 A3 cap3 y1 ∧ OwO 3 encIIB 92 w' fp4 A5 cap5 l7 ∧ (∀ x ∈ fp4, w0.heap.size ≤ x) ∧ Dj [b2] fp4 ∧ Dj fp2 fp4 ∧ Chg [] w0 w' ∧ w0.heap.size ≤ w'.heap.size) hr2 (fun hst => ⟨l3, A1, cap1, fp1, 0, l4, rfl, Fr.of hst (by kernel_rfl), F6, F7, F8, F9, F10, F12, F11, G4, D4, (D6).symm, hB, hZ⟩) ?_
    rintro _ c2 a' w8 ⟨l7, A5, cap5, fp4, x2, l8, rfl, hF2, F13, F14, F15, F16, F17, F18, F19, G6, D7, D8, hB, hZ⟩ hx3
    refine Fr.goOn hF2 (by kernel_rfl) ?_
    have hm := hx3
    unfold m_impl_flow_search_bimplflow_bimplMaze_s4 at hm
    refine cW_seq ?_
    refine cW_region ?_
    refine wS_pure 1 [(33, .bool (decide (x2 < (((y1).length : Int)))))] (by kernel_rfl) ?_
    refine wS_end (by rfl) ?_
    refine eX_then ?_
    refine cW_seq ?_
    refine cW_cond (t := decide (x2 < (((y1).length : Int)))) (by kernel_rfl) (fun hb2 => ?_) (fun hb2 => ?_)
    ·have hm := condT hb2 hm
     refine cW_skip ?_
     refine eX_then ?_
     refine cW_seq ?_
     refine cW_block ?_
     obtain ⟨s3, hs1, hm⟩ := bindE hm
     refine cW_cut (fun a' w' => ∃ l9 : List (Int × Int × Bool), ∃ A6 : Option Addr, ∃ cap6 : Nat, ∃ fp5 : List Nat, ∃ l10 : List ((Int × Int × Bool) × (Int × Int × Bool)), (l9, l10) = s3 ∧ Fr 63 [(0, .pointer (some ⟨b0, 0, none⟩)), (4, .map (some b2)), (5, .slice A6 (l9).length cap6), (30, .slice A3 (y1).length cap3), (31, .int .i64 (((y1).length : Int))), (32, .int .i64 (x2))] a' ∧ SlR 1 encI w' fp0_0_0 A0_0_0 l0_0_0 ∧ Cl w' b0_0 26 [.slice A0_0_0 (l0_0_0).length cap0_0_0] ∧ Mp okIIBIIB ekIIBIIB vB w' b0_5 l0_5 ∧ Cl w' b0 86 [.pointer (some ⟨b0_0, 0, none⟩), .int .i64 (q0_1), .int .i64 (q0_2), .int .i64 (q0_3), .int .i64 (q0_4), .map (some b0_5)] ∧ Mp okIIB ekIIB ekIIB w' b2 l10 ∧ Ow 3 encIIB 92 w' fp2 A3 cap3 y1 ∧ OwO 3 encIIB 92 w' fp5 A6 cap6 l9 ∧ (∀ x ∈ fp5, w0.heap.size ≤ x) ∧ Dj [b2] fp5 ∧ Dj fp2 fp5 ∧ Chg [] w0 w' ∧ w0.heap.size ≤ w'.heap.size) ?_ ?_
     ·have hm := hs1
      refine cW_seq ?_
      refine cW_region ?_
      obtain ⟨x3, hx4, hm⟩ := bindE hm
      refine wS_idx (d := 34) (T := 107) (A := A3) (n := (y1).length) (cap := cap3) (kd := .i64) (m := x2) (by kernel_rfl) sl107 ((F18.sl encIIB_ok).is hx4) ?_
      refine wS_loadA (d := 35) (T := 92) (ad := (elA A3 3 (x2) 0)) (vs := [.int .i64 (x3.1), .int .i64 (x3.2.1), .bool (x3.2.2)]) (by kernel_rfl) vt92 (fun i u hu => Sl.cells_at (F18.sl encIIB_ok) hx4 0 hu (by rfl)) ?_
      refine wS_alloc (d := 7) (T := 92) (z := .agg #[.int .i64 (0), .int .i64 (0), .bool (false)]) (by kernel_rfl) (by kernel_rfl) ?_
      intro b4 w9 G7 F20 hc7
      replace F20 : Cl w9 b4 92 [.int .i64 (0), .int .i64 (0), .bool (false)] := F20
      have D9 : Dj [b2] [b4] := Dj.of F17.low (low1 G7)
      have D10 : Dj fp2 [b4] := Dj.of F18.low (low1 G7)
      have D11 : Dj fp4 [b4] := Dj.of F19.low (low1 G7)
      replace F13 := F13.chg hc7 Dj.nil
      replace F14 := F14.chg hc7 notNil
      replace F15 := F15.chg hc7 Dj.nil
      replace F16 := F16.chg hc7 notNil
      replace F17 := F17.chg hc7 Dj.nil
      replace F18 := F18.chg hc7 Dj.nil
      replace F19 := F19.chg hc7 Dj.nil
      replace hB := hB.inS hc7 inNil
      replace G7 := Nat.le_trans hZ G7
      replace hZ := Nat.le_trans hZ hc7.size
      refine wS_store (T := 92) (g := b4) (o := 0) (ad := ⟨b4, 0, none⟩) (v := .agg #[.int .i64 (x3.1), .int .i64 (x3.2.1), .bool (x3.2.2)]) (vs := [.int .i64 (x3.1), .int .i64 (x3.2.1), .bool (x3.2.2)]) (by kernel_rfl) (by rfl) sz92 (by rfl) (by rfl) F20 (by simp only [List.length_cons, List.length_nil]; omega) ?_
      intro w10 F21 hc8
      replace F13 := F13.chg hc8 (Dj.of L0_0_0 (low1 G7))
      replace F14 := F14.chg hc8 (dj1 (Dj.of L0_0 (low1 G7)))
      replace F15 := F15.chg hc8 (Dj.of L0_5 (low1 G7))
      replace F16 := F16.chg hc8 (dj1 (Dj.of L0 (low1 G7)))
      replace F17 := F17.chg hc8 D9
      replace F18 := F18.chg hc8 D10
      replace F19 := F19.chg hc8 D11
      replace hB := hB.inS hc8 (inLow (low1 G7))
      replace hZ := Nat.le_trans hZ hc8.size
      replace F21 : Cl w10 b4 92 [.int .i64 (x3.1), .int .i64 (x3.2.1), .bool (x3.2.2)] := F21
      clear F20
      refine wS_end (by rfl) ?_
      refine eX_then ?_
      refine cW_seq ?_
      refine cW_region ?_
      refine wS_pure 1 [(37, .map (some b2))] (by kernel_rfl) ?_
      refine wS_loadA (d := 38) (T := 92) (ad := ⟨b4, 0, none⟩) (vs := [.int .i64 (x3.1), .int .i64 (x3.2.1), .bool (x3.2.2)]) (by kernel_rfl) vt92 (fun i u hu => box_cells F21 0 hu (by rfl)) ?_
      obtain ⟨_, hk2, hm⟩ := bindE hm
      refine wS_lookOk (k := (x3.1, x3.2.1, x3.2.2)) (d := 39) (T := 87) (by kernel_rfl) rfl mk87 mp87 F17 (mpE hk2) ?_
      refine wS_pure 3 [(41, .bool ((mget l8 ((x3.1, x3.2.1, x3.2.2))).isSome)), (40, .agg #[.int .i64 (((mget l8 ((x3.1, x3.2.1, x3.2.2))).getD (0, 0, false)).1), .int .i64 (((mget l8 ((x3.1, x3.2.1, x3.2.2))).getD (0, 0, false)).2.1), .bool (((mget l8 ((x3.1, x3.2.1, x3.2.2))).getD (0, 0, false)).2.2)]), (36, .tuple #[.agg #[.int .i64 (((mget l8 ((x3.1, x3.2.1, x3.2.2))).getD (0, 0, false)).1), .int .i64 (((mget l8 ((x3.1, x3.2.1, x3.2.2))).getD (0, 0, false)).2.1), .bool (((mget l8 ((x3.1, x3.2.1, x3.2.2))).getD (0, 0, false)).2.2)], .bool ((mget l8 ((x3.1, x3.2.1, x3.2.2))).isSome)])] (by kernel_rfl) ?_
      refine wS_alloc (d := 8) (T := 92) (z := .agg #[.int .i64 (0), .int .i64 (0), .bool (false)]) (by kernel_rfl) (by kernel_rfl) ?_
      intro b5 w11 G8 F22 hc9
      replace F22 : Cl w11 b5 92 [.int .i64 (0), .int .i64 (0), .bool (false)] := F22
      have D12 : Dj [b2] [b5] := Dj.of F17.low (low1 G8)
      have D13 : Dj fp2 [b5] := Dj.of F18.low (low1 G8)
      have D14 : Dj fp4 [b5] := Dj.of F19.low (low1 G8)
      have D15 : Dj [b4] [b5] := Dj.of (lt1 F21.lt) (low1 G8)
      replace F13 := F13.chg hc9 Dj.nil
      replace F14 := F14.chg hc9 notNil
      replace F15 := F15.chg hc9 Dj.nil
      replace F16 := F16.chg hc9 notNil
      replace F17 := F17.chg hc9 Dj.nil
      replace F18 := F18.chg hc9 Dj.nil
      replace F19 := F19.chg hc9 Dj.nil
      replace F21 := F21.chg hc9 notNil
      replace hB := hB.inS hc9 inNil
      replace G8 := Nat.le_trans hZ G8
      replace hZ := Nat.le_trans hZ hc9.size
      refine wS_store (T := 92) (g := b5) (o := 0) (ad := ⟨b5, 0, none⟩) (v := .agg #[.int .i64 (((mget l8 ((x3.1, x3.2.1, x3.2.2))).getD (0, 0, false)).1), .int .i64 (((mget l8 ((x3.1, x3.2.1, x3.2.2))).getD (0, 0, false)).2.1), .bool (((mget l8 ((x3.1, x3.2.1, x3.2.2))).getD (0, 0, false)).2.2)]) (vs := [.int .i64 (((mget l8 ((x3.1, x3.2.1, x3.2.2))).getD (0, 0, false)).1), .int .i64 (((mget l8 ((x3.1, x3.2.1, x3.2.2))).getD (0, 0, false)).2.1), .bool (((mget l8 ((x3.1, x3.2.1, x3.2.2))).getD (0, 0, false)).2.2)]) (by kernel_rfl) (by rfl) sz92 (by rfl) (by rfl) F22 (by simp only [List.length_cons, List.length_nil]; omega) ?_
      intro w12 F23 hc10
      replace F13 := F13.chg hc10 (Dj.of L0_0_0 (low1 G8))
      replace F14 := F14.chg hc10 (dj1 (Dj.of L0_0 (low1 G8)))
      replace F15 := F15.chg hc10 (Dj.of L0_5 (low1 G8))
      replace F16 := F16.chg hc10 (dj1 (Dj.of L0 (low1 G8)))
      replace F17 := F17.chg hc10 D12
      replace F18 := F18.chg hc10 D13
      replace F19 := F19.chg hc10 D14
      replace F21 := F21.chg hc10 (dj1 D15)
      replace hB := hB.inS hc10 (inLow (low1 G8))
      replace hZ := Nat.le_trans hZ hc10.size
      replace F23 : Cl w12 b5 92 [.int .i64 (((mget l8 ((x3.1, x3.2.1, x3.2.2))).getD (0, 0, false)).1), .int .i64 (((mget l8 ((x3.1, x3.2.1, x3.2.2))).getD (0, 0, false)).2.1), .bool (((mget l8 ((x3.1, x3.2.1, x3.2.2))).getD (0, 0, false)).2.2)] := F23
      clear F22
      refine wS_pure 1 [(9, .bool ((mget l8 ((x3.1, x3.2.1, x3.2.2))).isSome))] (by kernel_rfl) ?_
      refine wS_end (by rfl) ?_
      refine eX_then ?_
      refine cW_seq ?_
      refine cW_drawnTail [] 8 (by kernel_rfl) (by kernel_rfl) (fun w13 hc11 => ?_)
      replace F13 := F13.chg hc11 Dj.nil
      replace F14 := F14.chg hc11 notNil
      replace F15 := F15.chg hc11 Dj.nil
      replace F16 := F16.chg hc11 notNil
      replace F17 := F17.chg hc11 Dj.nil
      replace F18 := F18.chg hc11 Dj.nil
      replace F19 := F19.chg hc11 Dj.nil
      replace F21 := F21.chg hc11 notNil
      replace F23 := F23.chg hc11 notNil
      replace hB := hB.inS hc11 inNil
      replace hZ := Nat.le_trans hZ hc11.size
      have hS := Chg.refl [] w13
      have Z1 := F13
      have Z2 := F14
      have Z3 := F15
      have Z4 := F16
      have Z5 := F17
      have Z6 := F18
      have Z7 := F19
      have Z8 := F21
      have Z9 := F23
      refine wH_take [0, 1, 2] [2, 1, 0] [(44, .bool (!((mget l8 ((x3.1, x3.2.1, x3.2.2))).isSome))), (43, .bool (!((mget l8 ((x3.1, x3.2.1, x3.2.2))).isSome))), (42, .bool ((mget l8 ((x3.1, x3.2.1, x3.2.2))).isSome))] (by kernel_rfl) (qT (qT (qT (qB (qT (qL (qB (qT (qB (qT (qL (qB (qT (qT qZ)))))))))))))) (by kernel_rfl) ?_
      refine wH_bool (!((mget l8 ((x3.1, x3.2.1, x3.2.2))).isSome)) (fun hb3 => ?_) (fun hb3 => ?_)
      ·have hm := condT hb3 hm
       rewrite [hb3]
       refine wH_take [3, 4] [4, 3, 2, 1, 0] [(46, .slice A5 (l7).length cap5), (45, .pointer (some ⟨b0, 0, none⟩))] (by kernel_rfl) (qT (qT (qT (qB (qT (qL (qB (qT (qB (qT (qL (qB (qT (qT qZ)))))))))))))) (by kernel_rfl) ?_
       obtain ⟨x4, hx5, hm⟩ := bindE hm
       refine wH_idx (i := 5) (d := 47) (T := 107) (A := A5) (n := (l7).length) (cap := cap5) (kd := .i64) (m := 0) (by kernel_rfl) (qT (qT (qT (qB (qT (qL (qB (qT (qB (qT (qL (qB (qT (qT qZ)))))))))))))) (by kernel_rfl) (by kernel_rfl) sl107 ((F19.sl encIIB_ok).is hx5) ?_
       refine wH_loadA (i := 6) (d := 48) (T := 92) (ad := (elA A5 3 (0) 0)) (vs := [.int .i64 (x4.1), .int .i64 (x4.2.1), .bool (x4.2.2)]) (by kernel_rfl) (qT (qT (qT (qB (qT (qL (qB (qT (qB (qT (qL (qB (qT (qT qZ)))))))))))))) (by kernel_rfl) (by kernel_rfl) vt92 (fun W hW i u hu => Sl.cells_at ((Z7.chg hW Dj.nil).sl encIIB_ok) hx5 0 hu (by rfl)) ?_
       refine wH_loadA (i := 7) (d := 49) (T := 92) (ad := ⟨b4, 0, none⟩) (vs := [.int .i64 (x3.1), .int .i64 (x3.2.1), .bool (x3.2.2)]) (by kernel_rfl) (qT (qT (qT (qB (qT (qL (qB (qT (qB (qT (qL (qB (qT (qT qZ)))))))))))))) (by kernel_rfl) (by kernel_rfl) vt92 (fun W hW i u hu => box_cells (Z8.chg hW notNil) 0 hu (by rfl)) ?_
       refine wH_done (by kernel_rfl) ?_
       refine eX_tail ?_
       obtain ⟨y2, hy2, hm⟩ := bindE hm
       refine wS_calls (d := 50) (f := 67) (vs := [.pointer (some ⟨b0, 0, none⟩), .agg #[.int .i64 (x4.1), .int .i64 (x4.2.1), .bool (x4.2.2)], .agg #[.int .i64 (x3.1), .int .i64 (x3.2.1), .bool (x3.2.2)]]) (by kernel_rfl) ent67 (c_impl_flow_room_bimplflow_bimplMaze hy2 F13 F14 F15 F16) ?_
       rintro _ w14 ⟨rfl, hc12⟩
       replace F13 := F13.chg hc12 Dj.nil
       replace F14 := F14.chg hc12 notNil
       replace F15 := F15.chg hc12 Dj.nil
       replace F16 := F16.chg hc12 notNil
       replace F17 := F17.chg hc12 Dj.nil
       replace F18 := F18.chg hc12 Dj.nil
       replace F19 := F19.chg hc12 Dj.nil
       replace F21 := F21.chg hc12 notNil
       replace F23 := F23.chg hc12 notNil
       replace hB := hB.inS hc12 inNil
       replace hZ := Nat.le_trans hZ hc12.size
       refine ⟨.bool (y2), rfl, ?_⟩
       refine wS_pure 1 [(51, .bool (y2))] (by kernel_rfl) ?_
       refine wS_end (by rfl) ?_
       refine eX_then ?_
       refine cW_prune [(0, .pointer (some ⟨b0, 0, none⟩)), (4, .map (some b2)), (5, .slice A5 (l7).length cap5), (7, .pointer (some ⟨b4, 0, none⟩)), (30, .slice A3 (y1).length cap3), (31, .int .i64 (((y1).length : Int))), (32, .int .i64 (x2)), (51, .bool (y2))] (by kernel_rfl) (by kernel_rfl) (fun a1 => ?_)
       refine cW_cond (t := y2) (by kernel_rfl) (fun hb4 => ?_) (fun hb4 => ?_)
       ·have hm := condT hb4 hm
        refine cW_seq ?_
        refine cW_drawnTail [] 5 (by kernel_rfl) (by kernel_rfl) (fun w15 hc13 => ?_)
        replace F13 := F13.chg hc13 Dj.nil
        replace F14 := F14.chg hc13 notNil
        replace F15 := F15.chg hc13 Dj.nil
        replace F16 := F16.chg hc13 notNil
        replace F17 := F17.chg hc13 Dj.nil
        replace F18 := F18.chg hc13 Dj.nil
        replace F19 := F19.chg hc13 Dj.nil
        replace F21 := F21.chg hc13 notNil
        replace F23 := F23.chg hc13 notNil
        replace hB := hB.inS hc13 inNil
        replace hZ := Nat.le_trans hZ hc13.size
        have hS := Chg.refl [] w15
        have Z10 := F13
        have Z11 := F14
        have Z12 := F15
        have Z13 := F16
        have Z14 := F17
        have Z15 := F18
        have Z16 := F19
        have Z17 := F21
        have Z18 := F23
        refine wH_take [0] [0] [(52, .map (some b2))] (by kernel_rfl) (qT (qT (qT (qB (qT (qL (qB (qT (qB (qT (qL (qB (qT (qT qZ)))))))))))))) (by kernel_rfl) ?_
        refine wH_loadA (i := 1) (d := 53) (T := 92) (ad := ⟨b4, 0, none⟩) (vs := [.int .i64 (x3.1), .int .i64 (x3.2.1), .bool (x3.2.2)]) (by kernel_rfl) (qT (qT (qT (qB (qT (qL (qB (qT (qB (qT (qL (qB (qT (qT qZ)))))))))))))) (by kernel_rfl) (by kernel_rfl) vt92 (fun W hW i u hu => box_cells (Z17.chg hW notNil) 0 hu (by rfl)) ?_
        refine wH_take [2] [2, 1, 0] [(54, .slice A5 (l7).length cap5)] (by kernel_rfl) (qT (qT (qT (qB (qT (qL (qB (qT (qB (qT (qL (qB (qT (qT qZ)))))))))))))) (by kernel_rfl) ?_
        obtain ⟨x5, hx6, hm⟩ := bindE hm
        refine wH_idx (i := 3) (d := 55) (T := 107) (A := A5) (n := (l7).length) (cap := cap5) (kd := .i64) (m := 0) (by kernel_rfl) (qT (qT (qT (qB (qT (qL (qB (qT (qB (qT (qL (qB (qT (qT qZ)))))))))))))) (by kernel_rfl) (by kernel_rfl) sl107 ((F19.sl encIIB_ok).is hx6) ?_
        refine wH_loadA (i := 4) (d := 56) (T := 92) (ad := (elA A5 3 (0) 0)) (vs := [.int .i64 (x5.1), .int .i64 (x5.2.1), .bool (x5.2.2)]) (by kernel_rfl) (qT (qT (qT (qB (qT (qL (qB (qT (qB (qT (qL (qB (qT (qT qZ)))))))))))))) (by kernel_rfl) (by kernel_rfl) vt92 (fun W hW i u hu => Sl.cells_at ((Z16.chg hW Dj.nil).sl encIIB_ok) hx6 0 hu (by rfl)) ?_
        refine wH_done (by kernel_rfl) ?_
        refine eX_tail ?_
        obtain ⟨_, hk3, hm⟩ := bindE hm
        refine wS_mup (k := (x3.1, x3.2.1, x3.2.2)) (x := (x5.1, x5.2.1, x5.2.2)) (T := 87) (by kernel_rfl) rfl rfl mk87 mp87 F17 (mpE hk3) ?_
        intro w16 F24 hc14
        replace F13 := F13.chg hc14 (Dj.of L0_0_0 G2)
        replace F14 := F14.chg hc14 (dj1 (Dj.of L0_0 G2))
        replace F15 := F15.chg hc14 (Dj.of L0_5 G2)
        replace F16 := F16.chg hc14 (dj1 (Dj.of L0 G2))
        replace F18 := F18.chg hc14 (D5).symm
        replace F19 := F19.chg hc14 (D7).symm
        replace F21 := F21.chg hc14 (dj1 (D9).symm)
        replace F23 := F23.chg hc14 (dj1 (D12).symm)
        replace hB := hB.inS hc14 (inLow G2)
        replace hZ := Nat.le_trans hZ hc14.size
        clear F17
        refine wS_end (by rfl) ?_
        refine eX_then ?_
        refine cW_region ?_
        refine wS_pure 1 [(57, .slice A5 (l7).length cap5)] (by kernel_rfl) ?_
        refine wS_loadA (d := 58) (T := 92) (ad := ⟨b4, 0, none⟩) (vs := [.int .i64 (x3.1), .int .i64 (x3.2.1), .bool (x3.2.2)]) (by kernel_rfl) vt92 (fun i u hu => box_cells F21 0 hu (by rfl)) ?_
        refine wS_bs (enc := encIIB) ([(x3.1, x3.2.1, x3.2.2)] : List (Int × Int × Bool)) [.int .i64 (x3.1), .int .i64 (x3.2.1), .bool (x3.2.2)] (d := 59) (t := 107) (T := 92) (n := 1) (ps := [(0, .agg #[.int .i64 (x3.1), .int .i64 (x3.2.1), .bool (x3.2.2)])]) (by kernel_rfl) el107 encIIB_ok (by rfl) (by omega) (by omega) (by kernel_rfl) (by rfl) ?_
        intro b6 w17 G9 F25 hc15
        have D16 : Dj [b2] [b6] := Dj.of F24.low (low1 G9)
        have D17 : Dj fp2 [b6] := Dj.of F18.low (low1 G9)
        have D18 : Dj fp4 [b6] := Dj.of F19.low (low1 G9)
        have D19 : Dj [b4] [b6] := Dj.of (lt1 F21.lt) (low1 G9)
        have D20 : Dj [b5] [b6] := Dj.of (lt1 F23.lt) (low1 G9)
        replace F13 := F13.chg hc15 Dj.nil
        replace F14 := F14.chg hc15 notNil
        replace F15 := F15.chg hc15 Dj.nil
        replace F16 := F16.chg hc15 notNil
        replace F24 := F24.chg hc15 Dj.nil
        replace F18 := F18.chg hc15 Dj.nil
        replace F19 := F19.chg hc15 Dj.nil
        replace F21 := F21.chg hc15 notNil
        replace F23 := F23.chg hc15 notNil
        replace hB := hB.inS hc15 inNil
        replace G9 := Nat.le_trans hZ G9
        replace G9 := low1 G9
        replace hZ := Nat.le_trans hZ hc15.size
        obtain ⟨_, hk4, hm⟩ := bindE hm
        replace hk4 := apE hk4
        refine wS_appendO (enc := encIIB) (l := (l7 : List (Int × Int × Bool))) (l2 := (([(x3.1, x3.2.1, x3.2.2)] : List (Int × Int × Bool)) : List (Int × Int × Bool))) (d := 60) (t := 107) (T := 92) (A := A5) (A2 := (some ⟨b6, 0, none⟩)) (cap := cap5) (cap2 := 1) (by kernel_rfl) el107 encIIB_ok F19 (F25.sl encIIB_ok) hk4 ?_
        intro w18 fp6 A7 cap7 F26 hc16 hp1
        have G10 := low_ap G6 hZ hp1
        have D21 : Dj [b2] fp6 := Dj.ap D7 F24.low hp1
        have D22 : Dj fp2 fp6 := Dj.ap D8 F18.low hp1
        have D23 : Dj [b4] fp6 := Dj.ap (D11).symm (lt1 F21.lt) hp1
        have D24 : Dj [b5] fp6 := Dj.ap (D14).symm (lt1 F23.lt) hp1
        have D25 : Dj [b6] fp6 := Dj.ap (D18).symm F25.low hp1
        replace F13 := F13.chg hc16 (Dj.of L0_0_0 G6)
        replace F14 := F14.chg hc16 (dj1 (Dj.of L0_0 G6))
        replace F15 := F15.chg hc16 (Dj.of L0_5 G6)
        replace F16 := F16.chg hc16 (dj1 (Dj.of L0 G6))
        replace F24 := F24.chg hc16 D7
        replace F18 := F18.chg hc16 D8
        replace F21 := F21.chg hc16 (dj1 (D11).symm)
        replace F23 := F23.chg hc16 (dj1 (D14).symm)
        replace F25 := F25.chg hc16 (D18).symm
        replace hB := hB.inS hc16 (inLow G6)
        replace hZ := Nat.le_trans hZ hc16.size
        refine wS_pure 1 [(5, .slice A7 (l7 ++ (([(x3.1, x3.2.1, x3.2.2)] : List (Int × Int × Bool)))).length cap7)] (by kernel_rfl) ?_
        refine wS_end (by rfl) ?_
        have hq : (some ((l7 ++ (([(x3.1, x3.2.1, x3.2.2)] : List (Int × Int × Bool))), mup l8 ((x3.1, x3.2.1, x3.2.2)) ((x5.1, x5.2.1, x5.2.2)))) : Option ((List (Int × Int × Bool)) × (List ((Int × Int × Bool) × (Int × Int × Bool))))) = some _ := hm
        replace hq := someE hq
        subst hq
        exact eX_J (fun hst => ⟨l7 ++ (([(x3.1, x3.2.1, x3.2.2)] : List (Int × Int × Bool))), A7, cap7, fp6, mup l8 ((x3.1, x3.2.1, x3.2.2)) ((x5.1, x5.2.1, x5.2.2)), rfl, Fr.of hst (by kernel_rfl), F13, F14, F15, F16, F24, F18, F26, G10, D21, D22, hB, hZ⟩)
       ·have hm := condF hb4 hm
        refine cW_skip ?_
        have hq : (some ((l7, l8)) : Option ((List (Int × Int × Bool)) × (List ((Int × Int × Bool) × (Int × Int × Bool))))) = some _ := hm
        replace hq := someE hq
        subst hq
        exact eX_J (fun hst => ⟨l7, A5, cap5, fp4, l8, rfl, Fr.of hst (by kernel_rfl), F13, F14, F15, F16, F17, F18, F19, G6, D7, D8, hB, hZ⟩)
      ·have hm := condF hb3 hm
       rewrite [hb3]
       refine wH_take [3, 4, 5, 6, 7] [7, 6, 5, 4, 3, 2, 1, 0] [(49, undef), (48, undef), (47, undef), (46, undef), (45, undef)] (by kernel_rfl) (qT (qT (qT (qB (qT (qL (qB (qT (qB (qT (qL (qB (qT (qT qZ)))))))))))))) (by kernel_rfl) ?_
       refine wH_done (by kernel_rfl) ?_
       refine eX_tail ?_
       refine wS_pure 2 [(51, .bool (false)), (50, undef)] (by kernel_rfl) ?_
       refine wS_end (by rfl) ?_
       refine eX_then ?_
       refine cW_prune [(0, .pointer (some ⟨b0, 0, none⟩)), (4, .map (some b2)), (5, .slice A5 (l7).length cap5), (7, .pointer (some ⟨b4, 0, none⟩)), (30, .slice A3 (y1).length cap3), (31, .int .i64 (((y1).length : Int))), (32, .int .i64 (x2)), (51, .bool (false))] (by kernel_rfl) (by kernel_rfl) (fun a2 => ?_)
       refine cW_cond_f (by kernel_rfl) ?_
       refine cW_skip ?_
       have hq : (some ((l7, l8)) : Option ((List (Int × Int × Bool)) × (List ((Int × Int × Bool) × (Int × Int × Bool))))) = some _ := hm
       replace hq := someE hq
       subst hq
       exact eX_J (fun hst => ⟨l7, A5, cap5, fp4, l8, rfl, Fr.of hst (by kernel_rfl), F13, F14, F15, F16, F17, F18, F19, G6, D7, D8, hB, hZ⟩)
     ·rintro a' w19 ⟨l9, A6, cap6, fp5, l10, hJ, hF3, F27, F28, F29, F30, F31, F32, F33, G11, D26, D27, hB, hZ⟩
      subst hJ
      refine Fr.goX hF3 (by kernel_rfl) ?_
      refine eX_block ?_
      refine eX_then ?_
      refine cW_region ?_
      refine wS_pure 2 [(32, .int .i64 (wr (x2 + 1))), (61, .int .i64 (wr (x2 + 1)))] (by kernel_rfl) ?_
      refine wS_end (by rfl) ?_
      have hq : (some (Ctl.next ((l9, wr (x2 + 1), l10))) : Option (Ctl ((List (Int × Int × Bool)) × Int × (List ((Int × Int × Bool) × (Int × Int × Bool)))) ((List (Int × Int × Bool)) × (List ((Int × Int × Bool) × (Int × Int × Bool)))))) = some _ := hm
      replace hq := someE hq
      subst hq
      exact eX_next hx3 (fun hst => ⟨l9, A6, cap6, fp5, wr (x2 + 1), l10, rfl, Fr.of hst (by kernel_rfl), F27, F28, F29, F30, F31, F32, F33, G11, D26, D27, hB, hZ⟩)
    ·have hm := condF hb2 hm
     refine cW_exit ?_
     refine eX_then_exit ?_
     have hq : (some (Ctl.out ((l7, l8))) : Option (Ctl ((List (Int × Int × Bool)) × Int × (List ((Int × Int × Bool) × (Int × Int × Bool)))) ((List (Int × Int × Bool)) × (List ((Int × Int × Bool) × (Int × Int × Bool)))))) = some _ := hm
     replace hq := someE hq
     subst hq
     refine eX_outX hx3 (fun hr3 => ?_)
     replace hr3 := hr3.symm
     subst hr3
     refine eX_block_hit ?_
     exact eX_J (fun hst => ⟨l7, A5, cap5, fp4, l8, rfl, Fr.of hst (by kernel_rfl), F13, F14, F15, F16, F17, F19, G6, D7, hB, hZ⟩)
   ·rintro a' w20 ⟨l5, A4, cap4, fp3, l6, hJ, hF4, F34, F35, F36, F37, F38, F39, G12, D28, hB, hZ⟩
    subst hJ
    refine Fr.goX hF4 (by kernel_rfl) ?_
    refine eX_block ?_
    refine eX_then ?_
    refine cW_region ?_
    refine wS_pure 1 [(24, .slice A4 (l5).length cap4)] (by kernel_rfl) ?_
    obtain ⟨y3, hy3, hm⟩ := bindE hm
    refine wS_cutO (k := 3) (enc := encIIB) (U := 92) (l := l5) (d := 25) (T := 107) (A := A4) (cap := cap4) (lo := 1) (by kernel_rfl) sl107 encIIB_ok F39 hy3 ?_
    intro A8 cap8 F40
    refine wS_pure 1 [(5, .slice A8 (l5.drop (Int.toNat 1)).length cap8)] (by kernel_rfl) ?_
    refine wS_end (by rfl) ?_
    have hq : (some (Ctl.next ((l5.drop (Int.toNat 1), l6))) : Option (Ctl ((List (Int × Int × Bool)) × (List ((Int × Int × Bool) × (Int × Int × Bool)))) ((List ((Int × Int × Bool) × (Int × Int × Bool)))))) = some _ := hm
    replace hq := someE hq
    subst hq
    exact eX_next hx1 (fun hst => ⟨l5.drop (Int.toNat 1), A8, cap8, fp3, l6, rfl, Fr.of hst (by kernel_rfl), F34, F35, F36, F37, F38, F40, G12, D28, hB, hZ⟩)
  ·have hm := condF hb1 hm
   refine cW_exit ?_
   refine eX_then_exit ?_
   have hq : (some (Ctl.out l4) : Option (Ctl ((List (Int × Int × Bool)) × (List ((Int × Int × Bool) × (Int × Int × Bool)))) ((List ((Int × Int × Bool) × (Int × Int × Bool)))))) = some _ := hm
   replace hq := someE hq
   subst hq
   refine eX_outX hx1 (fun hr4 => ?_)
   replace hr4 := hr4.symm
   subst hr4
   refine eX_block_hit ?_
   exact eX_J (fun hst => ⟨l4, rfl, Fr.of hst (by kernel_rfl), F10, hB, hZ⟩)
 ·rintro a' w21 ⟨l1, hJ, hF5, F41, hB, hZ⟩
  subst hJ
  refine Fr.goX hF5 (by kernel_rfl) ?_
  refine eX_then ?_
  refine cW_seq ?_
  refine cW_region ?_
  refine wS_pure 2 [(2, .map (some b2)), (62, .map (some b2))] (by kernel_rfl) ?_
  refine wS_end (by rfl) ?_
  refine eX_then ?_
  refine cW_ret ?_
  have hq : (some l1 : Option ((List ((Int × Int × Bool) × (Int × Int × Bool))))) = some _ := hm
  replace hq := someE hq
  subst hq
  refine eX_ret (vs := [.map (some b2)]) [.tmp 2] (by rfl) ⟨by (show lkE _ _ _ = _); kernel_rfl, trivial⟩ ?_
  exact ⟨b2, rfl, F41, G2, hB⟩

set_option maxRecDepth 100000 in
/-- impl.flow).push -/
theorem c_impl_flow_push_bimplflow_bimplMaze {w0 : World} {l0_0_0 : List (List (Int))} {A0_0_0 : Option Addr} {cap0_0_0 : Nat} {fp0_0_0 : List Nat} {b0_0 : Nat} {q0_1 : Int} {q0_2 : Int} {q0_3 : Int} {q0_4 : Int} {l0_5 : List ((Int × Int × Bool × Int × Int × Bool) × Bool)} {b0_5 : Nat} {b0 : Nat} {l1 : List ((Int × Int × Bool) × (Int × Int × Bool))} {b1 : Nat} {r : (Bool) × (List ((Int × Int × Bool × Int × Int × Bool) × Bool))} (hm : m_impl_flow_push_bimplflow_bimplMaze l0_0_0 q0_1 q0_2 q0_3 q0_4 l0_5 l1 = some r) (F0_0_0 : SlR 1 encI w0 fp0_0_0 A0_0_0 l0_0_0) (F0_0 : Cl w0 b0_0 26 [.slice A0_0_0 (l0_0_0).length cap0_0_0]) (F0_5 : Mp okIIBIIB ekIIBIIB vB w0 b0_5 l0_5) (F0 : Cl w0 b0 86 [.pointer (some ⟨b0_0, 0, none⟩), .int .i64 (q0_1), .int .i64 (q0_2), .int .i64 (q0_3), .int .i64 (q0_4), .map (some b0_5)]) (F1 : Mp okIIB ekIIB ekIIB w0 b1 l1) (J0_5__0_0_0 : Dj [b0_5] fp0_0_0) (J0_5__0_0 : Dj [b0_5] [b0_0]) (J0_5__0 : Dj [b0_5] [b0]) (J0_5__1 : Dj [b0_5] [b1]) :
  Calls Try.prog 48 #[.pointer (some ⟨b0, 0, none⟩), .map (some b1)] w0 fun e w' => e = .returned (.bool (r.1)) ∧ Mp okIIBIIB ekIIBIIB vB w' b0_5 r.2 ∧ Chg ([b0_5] ++ []) w0 w' := by
 have L0_0_0 := F0_0_0.low
 have L0_0 := lt1 F0_0.lt
 have L0_5 := F0_5.low
 have L0 := lt1 F0.lt
 have L1 := F1.low
 have hB : Chg ([b0_5] ++ []) w0 w0 := Chg.refl _ _
 have hZ := Nat.le_refl w0.heap.size
 unfold m_impl_flow_push_bimplflow_bimplMaze at hm
 refine enterE (N := 55) Try.func48 (by rfl) Try.ntmps48 (by simp) [(0, .pointer (some ⟨b0, 0, none⟩)), (1, .map (some b1))] (by rfl) (by kernel_rfl) (fun a => ?_)
 refine cW_seq ?_
 refine cW_region ?_
 refine wS_pure 1 [(4, .bool (false))] (by kernel_rfl) ?_
 refine wS_end (by rfl) ?_
 refine eX_then ?_
 refine cW_seq ?_
 refine cW_region ?_
 refine wS_pure 3 [(11, .pointer (some ⟨b0, 3, none⟩)), (10, .pointer (some ⟨b0, 0, none⟩)), (9, .pointer (some ⟨b0, 0, none⟩))] (by kernel_rfl) ?_
 refine wS_loadA (d := 12) (T := 29) (ad := ⟨b0, 3, none⟩) (vs := [.int .i64 (q0_3), .int .i64 (q0_4)]) (by kernel_rfl) vt29 (fun i u hu => box_cells F0 3 hu (by rfl)) ?_
 refine wS_pure 1 [(13, .agg #[.int .i64 (q0_3), .int .i64 (q0_4), .bool (false)])] (by kernel_rfl) ?_
 refine wS_alloc (d := 5) (T := 92) (z := .agg #[.int .i64 (0), .int .i64 (0), .bool (false)]) (by kernel_rfl) (by kernel_rfl) ?_
 intro b2 w1 G1 F2 hc1
 replace F2 : Cl w1 b2 92 [.int .i64 (0), .int .i64 (0), .bool (false)] := F2
 replace F0_0_0 := F0_0_0.chg hc1 Dj.nil
 replace F0_0 := F0_0.chg hc1 notNil
 replace F0_5 := F0_5.chg hc1 Dj.nil
 replace F0 := F0.chg hc1 notNil
 replace F1 := F1.chg hc1 Dj.nil
 replace hB := hB.inS hc1 inNil
 replace G1 := Nat.le_trans hZ G1
 replace hZ := Nat.le_trans hZ hc1.size
 refine wS_store (T := 92) (g := b2) (o := 0) (ad := ⟨b2, 0, none⟩) (v := .agg #[.int .i64 (q0_3), .int .i64 (q0_4), .bool (false)]) (vs := [.int .i64 (q0_3), .int .i64 (q0_4), .bool (false)]) (by kernel_rfl) (by rfl) sz92 (by rfl) (by rfl) F2 (by simp only [List.length_cons, List.length_nil]; omega) ?_
 intro w2 F3 hc2
 replace F0_0_0 := F0_0_0.chg hc2 (Dj.of L0_0_0 (low1 G1))
 replace F0_0 := F0_0.chg hc2 (dj1 (Dj.of L0_0 (low1 G1)))
 replace F0_5 := F0_5.chg hc2 (Dj.of L0_5 (low1 G1))
 replace F0 := F0.chg hc2 (dj1 (Dj.of L0 (low1 G1)))
 replace F1 := F1.chg hc2 (Dj.of L1 (low1 G1))
 replace hB := hB.inS hc2 (inLow (low1 G1))
 replace hZ := Nat.le_trans hZ hc2.size
 replace F3 : Cl w2 b2 92 [.int .i64 (q0_3), .int .i64 (q0_4), .bool (false)] := F3
 clear F2
 refine wS_end (by rfl) ?_
 refine eX_then ?_
 refine cW_seq ?_
 refine cW_seq ?_
 refine cW_region ?_
 refine wS_pure 1 [(15, .map (some b1))] (by kernel_rfl) ?_
 refine wS_loadA (d := 16) (T := 92) (ad := ⟨b2, 0, none⟩) (vs := [.int .i64 (q0_3), .int .i64 (q0_4), .bool (false)]) (by kernel_rfl) vt92 (fun i u hu => box_cells F3 0 hu (by rfl)) ?_
 obtain ⟨_, hk1, hm⟩ := bindE hm
 refine wS_lookOk (k := (q0_3, q0_4, false)) (d := 17) (T := 87) (by kernel_rfl) rfl mk87 mp87 F1 (mpE hk1) ?_
 refine wS_pure 3 [(19, .bool ((mget l1 ((q0_3, q0_4, false))).isSome)), (18, .agg #[.int .i64 (((mget l1 ((q0_3, q0_4, false))).getD (0, 0, false)).1), .int .i64 (((mget l1 ((q0_3, q0_4, false))).getD (0, 0, false)).2.1), .bool (((mget l1 ((q0_3, q0_4, false))).getD (0, 0, false)).2.2)]), (14, .tuple #[.agg #[.int .i64 (((mget l1 ((q0_3, q0_4, false))).getD (0, 0, false)).1), .int .i64 (((mget l1 ((q0_3, q0_4, false))).getD (0, 0, false)).2.1), .bool (((mget l1 ((q0_3, q0_4, false))).getD (0, 0, false)).2.2)], .bool ((mget l1 ((q0_3, q0_4, false))).isSome)])] (by kernel_rfl) ?_
 refine wS_alloc (d := 6) (T := 92) (z := .agg #[.int .i64 (0), .int .i64 (0), .bool (false)]) (by kernel_rfl) (by kernel_rfl) ?_
 intro b3 w3 G2 F4 hc3
 replace F4 : Cl w3 b3 92 [.int .i64 (0), .int .i64 (0), .bool (false)] := F4
 have D1 : Dj [b2] [b3] := Dj.of (lt1 F3.lt) (low1 G2)
 replace F0_0_0 := F0_0_0.chg hc3 Dj.nil
 replace F0_0 := F0_0.chg hc3 notNil
 replace F0_5 := F0_5.chg hc3 Dj.nil
 replace F0 := F0.chg hc3 notNil
 replace F1 := F1.chg hc3 Dj.nil
 replace F3 := F3.chg hc3 notNil
 replace hB := hB.inS hc3 inNil
 replace G2 := Nat.le_trans hZ G2
 replace hZ := Nat.le_trans hZ hc3.size
 refine wS_store (T := 92) (g := b3) (o := 0) (ad := ⟨b3, 0, none⟩) (v := .agg #[.int .i64 (((mget l1 ((q0_3, q0_4, false))).getD (0, 0, false)).1), .int .i64 (((mget l1 ((q0_3, q0_4, false))).getD (0, 0, false)).2.1), .bool (((mget l1 ((q0_3, q0_4, false))).getD (0, 0, false)).2.2)]) (vs := [.int .i64 (((mget l1 ((q0_3, q0_4, false))).getD (0, 0, false)).1), .int .i64 (((mget l1 ((q0_3, q0_4, false))).getD (0, 0, false)).2.1), .bool (((mget l1 ((q0_3, q0_4, false))).getD (0, 0, false)).2.2)]) (by kernel_rfl) (by rfl) sz92 (by rfl) (by rfl) F4 (by simp only [List.length_cons, List.length_nil]; omega) ?_
 intro w4 F5 hc4
 replace F0_0_0 := F0_0_0.chg hc4 (Dj.of L0_0_0 (low1 G2))
 replace F0_0 := F0_0.chg hc4 (dj1 (Dj.of L0_0 (low1 G2)))
 replace F0_5 := F0_5.chg hc4 (Dj.of L0_5 (low1 G2))
 replace F0 := F0.chg hc4 (dj1 (Dj.of L0 (low1 G2)))
 replace F1 := F1.chg hc4 (Dj.of L1 (low1 G2))
 replace F3 := F3.chg hc4 (dj1 D1)
 replace hB := hB.inS hc4 (inLow (low1 G2))
 replace hZ := Nat.le_trans hZ hc4.size
 replace F5 : Cl w4 b3 92 [.int .i64 (((mget l1 ((q0_3, q0_4, false))).getD (0, 0, false)).1), .int .i64 (((mget l1 ((q0_3, q0_4, false))).getD (0, 0, false)).2.1), .bool (((mget l1 ((q0_3, q0_4, false))).getD (0, 0, false)).2.2)] := F5
 clear F4
 refine wS_pure 1 [(7, .bool ((mget l1 ((q0_3, q0_4, false))).isSome))] (by kernel_rfl) ?_
 refine wS_end (by rfl) ?_
 refine eX_then ?_
 refine cW_seq ?_
 refine cW_region ?_
 refine wS_pure 2 [(21, .bool (!((mget l1 ((q0_3, q0_4, false))).isSome))), (20, .bool ((mget l1 ((q0_3, q0_4, false))).isSome))] (by kernel_rfl) ?_
 refine wS_end (by rfl) ?_
 refine eX_then ?_
 refine cW_cond (t := !((mget l1 ((q0_3, q0_4, false))).isSome)) (by kernel_rfl) (fun hb1 => ?_) (fun hb1 => ?_)
 ·have hm := condT hb1 hm
  refine cW_seq ?_
  refine cW_region ?_
  refine wS_pure 1 [(4, .bool (false))] (by kernel_rfl) ?_
  refine wS_end (by rfl) ?_
  refine eX_then ?_
  refine cW_ret ?_
  refine eX_then_ret ?_
  have hq : (some ((false, l0_5)) : Option ((Bool) × (List ((Int × Int × Bool × Int × Int × Bool) × Bool)))) = some _ := hm
  replace hq := someE hq
  subst hq
  refine eX_ret (vs := [.bool (false)]) [.tmp 4] (by rfl) ⟨by (show lkE _ _ _ = _); kernel_rfl, trivial⟩ ?_
  exact ⟨rfl, F0_5, hB⟩
 ·have hm := condF hb1 hm
  refine cW_skip ?_
  refine eX_then ?_
  refine cW_seq ?_
  obtain ⟨r1, hr1, hm⟩ := bindE hm
  have hm1 := hm
  refine cW_cut (fun a' w' => ∃ l2 : List ((Int × Int × Bool × Int × Int × Bool) × Bool), l2 = r1 ∧ Fr 55 [] a' ∧ Mp okIIBIIB ekIIBIIB vB w' b0_5 l2 ∧ Chg ([b0_5] ++ []) w0 w' ∧ w0.heap.size ≤ w'.heap.size) ?_ ?_
  ·refine cW_block ?_
   refine cW_loop _ (fun (s1 : Int × Int × Bool × (List ((Int × Int × Bool × Int × Int × Bool) × Bool))) a' w' => ∃ x1 : Int, ∃ x2 : Int, ∃ x3 : Bool, ∃ l3 : List ((Int × Int × Bool × Int × Int × Bool) × Bool), (x1, x2, x3, l3) = s1 ∧ Fr 55 [(0, .pointer (some ⟨b0, 0, none⟩)), (1, .map (some b1)), (5, .pointer (some ⟨b2, 0, none⟩))] a' ∧ SlR 1 encI w' fp0_0_0 A0_0_0 l0_0_0 ∧ Cl w' b0_0 26 [.slice A0_0_0 (l0_0_0).length cap0_0_0] ∧ Mp okIIBIIB ekIIBIIB vB w' b0_5 l3 ∧ Cl w' b0 86 [.pointer (some ⟨b0_0, 0, none⟩), .int .i64 (q0_1), .int .i64 (q0_2), .int .i64 (q0_3), .int .i64 (q0_4), .map (some b0_5)] ∧ Mp okIIB ekIIB ekIIB w' b1 l1 ∧ Cl w' b2 92 [.int .i64 (x1), .int .i64 (x2), .bool (x3)] ∧ Chg ([b0_5] ++ []) w0 w' ∧ w0.heap.size ≤ w'.heap.size) hr1 (fun hst => ⟨q0_3, q0_4, false, l0_5, rfl, Fr.of hst (by kernel_rfl), F0_0_0, F0_0, F0_5, F0, F1, F3, hB, hZ⟩) ?_
   rintro _ c1 a' w5 ⟨x1, x2, x3, l3, rfl, hF1, F6, F7, F8, F9, F10, F11, hB, hZ⟩ hx1
   refine Fr.goOn hF1 (by kernel_rfl) ?_
   have hm := hx1
   unfold m_impl_flow_push_bimplflow_bimplMaze_s1 at hm
   refine cW_seq ?_
   refine cW_seq ?_
   refine cW_drawnTail [] 6 (by kernel_rfl) (by kernel_rfl) (fun w6 hc5 => ?_)
   replace F6 := F6.chg hc5 Dj.nil
   replace F7 := F7.chg hc5 notNil
   replace F8 := F8.chg hc5 Dj.nil
   replace F9 := F9.chg hc5 notNil
   replace F10 := F10.chg hc5 Dj.nil
   replace F11 := F11.chg hc5 notNil
   replace hB := hB.inS hc5 inNil
   replace hZ := Nat.le_trans hZ hc5.size
   have hS := Chg.refl [] w6
   have Z1 := F6
   have Z2 := F7
   have Z3 := F8
   have Z4 := F9
   have Z5 := F10
   have Z6 := F11
   refine wH_loadA (i := 0) (d := 22) (T := 92) (ad := ⟨b2, 0, none⟩) (vs := [.int .i64 (x1), .int .i64 (x2), .bool (x3)]) (by kernel_rfl) (qT (qT (qT (qL (qB (qT (qT qZ))))))) (by kernel_rfl) (by kernel_rfl) vt92 (fun W hW i u hu => box_cells (Z6.chg hW notNil) 0 hu (by rfl)) ?_
   refine wH_take [1, 2, 3] [3, 2, 1, 0] [(25, .pointer (some ⟨b0, 1, none⟩)), (24, .pointer (some ⟨b0, 0, none⟩)), (23, .pointer (some ⟨b0, 0, none⟩))] (by kernel_rfl) (qT (qT (qT (qL (qB (qT (qT qZ))))))) (by kernel_rfl) ?_
   refine wH_loadA (i := 4) (d := 26) (T := 29) (ad := ⟨b0, 1, none⟩) (vs := [.int .i64 (q0_1), .int .i64 (q0_2)]) (by kernel_rfl) (qT (qT (qT (qL (qB (qT (qT qZ))))))) (by kernel_rfl) (by kernel_rfl) vt29 (fun W hW i u hu => box_cells (Z4.chg hW notNil) 1 hu (by rfl)) ?_
   refine wH_take [5] [5, 4, 3, 2, 1, 0] [(27, .agg #[.int .i64 (q0_1), .int .i64 (q0_2), .bool (true)])] (by kernel_rfl) (qT (qT (qT (qL (qB (qT (qT qZ))))))) (by kernel_rfl) ?_
   refine wH_done (by kernel_rfl) ?_
   refine eX_tail ?_
   refine wS_neG (d := 28) (T := 92) (x := x1) (y := x2) (p := x3) (x' := q0_1) (y' := q0_2) (q := true) (by kernel_rfl) eq92 ?_
   refine wS_end (by rfl) ?_
   refine eX_then ?_
   refine cW_cond (t := !(x1 == q0_1 && x2 == q0_2 && x3 == true)) (by kernel_rfl) (fun hb2 => ?_) (fun hb2 => ?_)
   ·have hm := condT hb2 hm
    refine cW_skip ?_
    refine eX_then ?_
    refine cW_block ?_
    obtain ⟨s2, hs1, hm⟩ := bindE hm
    refine cW_cut (fun a' w' => ∃ x4 : Int, ∃ x5 : Int, ∃ x6 : Bool, ∃ l4 : List ((Int × Int × Bool × Int × Int × Bool) × Bool), (x4, x5, x6, l4) = s2 ∧ Fr 55 [(0, .pointer (some ⟨b0, 0, none⟩)), (1, .map (some b1)), (5, .pointer (some ⟨b2, 0, none⟩))] a' ∧ SlR 1 encI w' fp0_0_0 A0_0_0 l0_0_0 ∧ Cl w' b0_0 26 [.slice A0_0_0 (l0_0_0).length cap0_0_0] ∧ Mp okIIBIIB ekIIBIIB vB w' b0_5 l4 ∧ Cl w' b0 86 [.pointer (some ⟨b0_0, 0, none⟩), .int .i64 (q0_1), .int .i64 (q0_2), .int .i64 (q0_3), .int .i64 (q0_4), .map (some b0_5)] ∧ Mp okIIB ekIIB ekIIB w' b1 l1 ∧ Cl w' b2 92 [.int .i64 (x4), .int .i64 (x5), .bool (x6)] ∧ Chg ([b0_5] ++ []) w0 w' ∧ w0.heap.size ≤ w'.heap.size) ?_ ?_
    ·have hm := hs1
     refine cW_seq ?_
     refine cW_region ?_
     refine wS_pure 1 [(29, .map (some b1))] (by kernel_rfl) ?_
     refine wS_loadA (d := 30) (T := 92) (ad := ⟨b2, 0, none⟩) (vs := [.int .i64 (x1), .int .i64 (x2), .bool (x3)]) (by kernel_rfl) vt92 (fun i u hu => box_cells F11 0 hu (by rfl)) ?_
     obtain ⟨y1, hy1, hm⟩ := bindE hm
     refine wS_look (k := (x1, x2, x3)) (d := 31) (T := 87) (by kernel_rfl) mk87 mp87 F10 hy1 ?_
     refine wS_alloc (d := 8) (T := 92) (z := .agg #[.int .i64 (0), .int .i64 (0), .bool (false)]) (by kernel_rfl) (by kernel_rfl) ?_
     intro b4 w7 G3 F12 hc6
     replace F12 : Cl w7 b4 92 [.int .i64 (0), .int .i64 (0), .bool (false)] := F12
     have D2 : Dj [b2] [b4] := Dj.of (lt1 F11.lt) (low1 G3)
     replace F6 := F6.chg hc6 Dj.nil
     replace F7 := F7.chg hc6 notNil
     replace F8 := F8.chg hc6 Dj.nil
     replace F9 := F9.chg hc6 notNil
     replace F10 := F10.chg hc6 Dj.nil
     replace F11 := F11.chg hc6 notNil
     replace hB := hB.inS hc6 inNil
     replace G3 := Nat.le_trans hZ G3
     replace hZ := Nat.le_trans hZ hc6.size
     refine wS_store (T := 92) (g := b4) (o := 0) (ad := ⟨b4, 0, none⟩) (v := .agg #[.int .i64 ((y1).1), .int .i64 ((y1).2.1), .bool ((y1).2.2)]) (vs := [.int .i64 ((y1).1), .int .i64 ((y1).2.1), .bool ((y1).2.2)]) (by kernel_rfl) (by rfl) sz92 (by rfl) (by rfl) F12 (by simp only [List.length_cons, List.length_nil]; omega) ?_
     intro w8 F13 hc7
     replace F6 := F6.chg hc7 (Dj.of L0_0_0 (low1 G3))
     replace F7 := F7.chg hc7 (dj1 (Dj.of L0_0 (low1 G3)))
     replace F8 := F8.chg hc7 (Dj.of L0_5 (low1 G3))
     replace F9 := F9.chg hc7 (dj1 (Dj.of L0 (low1 G3)))
     replace F10 := F10.chg hc7 (Dj.of L1 (low1 G3))
     replace F11 := F11.chg hc7 (dj1 D2)
     replace hB := hB.inS hc7 (inLow (low1 G3))
     replace hZ := Nat.le_trans hZ hc7.size
     replace F13 : Cl w8 b4 92 [.int .i64 ((y1).1), .int .i64 ((y1).2.1), .bool ((y1).2.2)] := F13
     clear F12
     refine wS_end (by rfl) ?_
     refine eX_then ?_
     refine cW_seq ?_
     obtain ⟨s3, hs2, hm⟩ := bindE hm
     refine cW_cut (fun a' w' => ∃ l5 : List ((Int × Int × Bool × Int × Int × Bool) × Bool), l5 = s3 ∧ Fr 55 [(0, .pointer (some ⟨b0, 0, none⟩)), (1, .map (some b1)), (5, .pointer (some ⟨b2, 0, none⟩)), (8, .pointer (some ⟨b4, 0, none⟩))] a' ∧ SlR 1 encI w' fp0_0_0 A0_0_0 l0_0_0 ∧ Cl w' b0_0 26 [.slice A0_0_0 (l0_0_0).length cap0_0_0] ∧ Mp okIIBIIB ekIIBIIB vB w' b0_5 l5 ∧ Cl w' b0 86 [.pointer (some ⟨b0_0, 0, none⟩), .int .i64 (q0_1), .int .i64 (q0_2), .int .i64 (q0_3), .int .i64 (q0_4), .map (some b0_5)] ∧ Mp okIIB ekIIB ekIIB w' b1 l1 ∧ Cl w' b2 92 [.int .i64 (x1), .int .i64 (x2), .bool (x3)] ∧ Cl w' b4 92 [.int .i64 ((y1).1), .int .i64 ((y1).2.1), .bool ((y1).2.2)] ∧ Chg ([b0_5] ++ []) w0 w' ∧ w0.heap.size ≤ w'.heap.size) ?_ ?_
     ·have hm := hs2
      refine cW_seq ?_
      refine cW_drawnTail [] 7 (by kernel_rfl) (by kernel_rfl) (fun w9 hc8 => ?_)
      replace F6 := F6.chg hc8 Dj.nil
      replace F7 := F7.chg hc8 notNil
      replace F8 := F8.chg hc8 Dj.nil
      replace F9 := F9.chg hc8 notNil
      replace F10 := F10.chg hc8 Dj.nil
      replace F11 := F11.chg hc8 notNil
      replace F13 := F13.chg hc8 notNil
      replace hB := hB.inS hc8 inNil
      replace hZ := Nat.le_trans hZ hc8.size
      have hS := Chg.refl [] w9
      have Z7 := F6
      have Z8 := F7
      have Z9 := F8
      have Z10 := F9
      have Z11 := F10
      have Z12 := F11
      have Z13 := F13
      refine wH_take [0, 1, 2] [2, 1, 0] [(34, .pointer (some ⟨b0, 5, none⟩)), (33, .pointer (some ⟨b0, 0, none⟩)), (32, .pointer (some ⟨b0, 0, none⟩))] (by kernel_rfl) (qT (qT (qT (qT (qT (qB (qL (qB (qT (qT qZ)))))))))) (by kernel_rfl) ?_
      refine wH_load1 (i := 3) (d := 35) (T := 84) (ad := ⟨b0, 5, none⟩) (v := .map (some b0_5)) (by kernel_rfl) (qT (qT (qT (qT (qT (qB (qL (qB (qT (qT qZ)))))))))) (by kernel_rfl) (by kernel_rfl) vt84 (fun W hW => (Z10.chg hW notNil).cell 5) ?_
      refine wH_loadA (i := 4) (d := 36) (T := 92) (ad := ⟨b2, 0, none⟩) (vs := [.int .i64 (x1), .int .i64 (x2), .bool (x3)]) (by kernel_rfl) (qT (qT (qT (qT (qT (qB (qL (qB (qT (qT qZ)))))))))) (by kernel_rfl) (by kernel_rfl) vt92 (fun W hW i u hu => box_cells (Z12.chg hW notNil) 0 hu (by rfl)) ?_
      refine wH_loadA (i := 5) (d := 37) (T := 92) (ad := ⟨b4, 0, none⟩) (vs := [.int .i64 ((y1).1), .int .i64 ((y1).2.1), .bool ((y1).2.2)]) (by kernel_rfl) (qT (qT (qT (qT (qT (qB (qL (qB (qT (qT qZ)))))))))) (by kernel_rfl) (by kernel_rfl) vt92 (fun W hW i u hu => box_cells (Z13.chg hW notNil) 0 hu (by rfl)) ?_
      refine wH_take [6] [6, 5, 4, 3, 2, 1, 0] [(38, .agg #[.int .i64 (x1), .int .i64 (x2), .bool (x3), .int .i64 ((y1).1), .int .i64 ((y1).2.1), .bool ((y1).2.2)])] (by kernel_rfl) (qT (qT (qT (qT (qT (qB (qL (qB (qT (qT qZ)))))))))) (by kernel_rfl) ?_
      refine wH_done (by kernel_rfl) ?_
      refine eX_tail ?_
      obtain ⟨y2, hy2, hm⟩ := bindE hm
      refine wS_look (k := (x1, x2, x3, (y1).1, (y1).2.1, (y1).2.2)) (d := 39) (T := 84) (by kernel_rfl) mk84 mp84 F8 hy2 ?_
      refine wS_end (by rfl) ?_
      refine eX_then ?_
      refine cW_cond (t := y2) (by kernel_rfl) (fun hb3 => ?_) (fun hb3 => ?_)
      ·have hm := condT hb3 hm
       refine cW_drawnTail [] 7 (by kernel_rfl) (by kernel_rfl) (fun w10 hc9 => ?_)
       replace F6 := F6.chg hc9 Dj.nil
       replace F7 := F7.chg hc9 notNil
       replace F8 := F8.chg hc9 Dj.nil
       replace F9 := F9.chg hc9 notNil
       replace F10 := F10.chg hc9 Dj.nil
       replace F11 := F11.chg hc9 notNil
       replace F13 := F13.chg hc9 notNil
       replace hB := hB.inS hc9 inNil
       replace hZ := Nat.le_trans hZ hc9.size
       have hS := Chg.refl [] w10
       have Z14 := F6
       have Z15 := F7
       have Z16 := F8
       have Z17 := F9
       have Z18 := F10
       have Z19 := F11
       have Z20 := F13
       refine wH_take [0, 1, 2] [2, 1, 0] [(42, .pointer (some ⟨b0, 5, none⟩)), (41, .pointer (some ⟨b0, 0, none⟩)), (40, .pointer (some ⟨b0, 0, none⟩))] (by kernel_rfl) (qT (qT (qT (qT (qB (qL (qB (qT (qT qZ))))))))) (by kernel_rfl) ?_
       refine wH_load1 (i := 3) (d := 43) (T := 84) (ad := ⟨b0, 5, none⟩) (v := .map (some b0_5)) (by kernel_rfl) (qT (qT (qT (qT (qB (qL (qB (qT (qT qZ))))))))) (by kernel_rfl) (by kernel_rfl) vt84 (fun W hW => (Z17.chg hW notNil).cell 5) ?_
       refine wH_loadA (i := 4) (d := 44) (T := 92) (ad := ⟨b2, 0, none⟩) (vs := [.int .i64 (x1), .int .i64 (x2), .bool (x3)]) (by kernel_rfl) (qT (qT (qT (qT (qB (qL (qB (qT (qT qZ))))))))) (by kernel_rfl) (by kernel_rfl) vt92 (fun W hW i u hu => box_cells (Z19.chg hW notNil) 0 hu (by rfl)) ?_
       refine wH_loadA (i := 5) (d := 45) (T := 92) (ad := ⟨b4, 0, none⟩) (vs := [.int .i64 ((y1).1), .int .i64 ((y1).2.1), .bool ((y1).2.2)]) (by kernel_rfl) (qT (qT (qT (qT (qB (qL (qB (qT (qT qZ))))))))) (by kernel_rfl) (by kernel_rfl) vt92 (fun W hW i u hu => box_cells (Z20.chg hW notNil) 0 hu (by rfl)) ?_
       refine wH_take [6] [6, 5, 4, 3, 2, 1, 0] [(46, .agg #[.int .i64 (x1), .int .i64 (x2), .bool (x3), .int .i64 ((y1).1), .int .i64 ((y1).2.1), .bool ((y1).2.2)])] (by kernel_rfl) (qT (qT (qT (qT (qB (qL (qB (qT (qT qZ))))))))) (by kernel_rfl) ?_
       refine wH_done (by kernel_rfl) ?_
       refine eX_tail ?_
       obtain ⟨_, hk2, hm⟩ := bindE hm
       refine wS_mdelN (k := (x1, x2, x3, (y1).1, (y1).2.1, (y1).2.2)) (T := 84) (T2 := 110) (by kernel_rfl) rfl mk84 mp84 F8 (mpE hk2) ?_
       intro w11 F14 hc10
       replace F6 := F6.chg hc10 (J0_5__0_0_0).symm
       replace F7 := F7.chg hc10 (dj1 (J0_5__0_0).symm)
       replace F9 := F9.chg hc10 (dj1 (J0_5__0).symm)
       replace F10 := F10.chg hc10 (J0_5__1).symm
       replace F11 := F11.chg hc10 (dj1 (Dj.of L0_5 (low1 G1)).symm)
       replace F13 := F13.chg hc10 (dj1 (Dj.of L0_5 (low1 G3)).symm)
       replace hB := hB.inS hc10 (inMem (fun x hx => (List.mem_append_left _ hx)))
       replace hZ := Nat.le_trans hZ hc10.size
       clear F8
       refine wS_end (by rfl) ?_
       have hq : (some (mdel l3 ((x1, x2, x3, (y1).1, (y1).2.1, (y1).2.2))) : Option ((List ((Int × Int × Bool × Int × Int × Bool) × Bool)))) = some _ := hm
       replace hq := someE hq
       subst hq
       exact eX_J (fun hst => ⟨mdel l3 ((x1, x2, x3, (y1).1, (y1).2.1, (y1).2.2)), rfl, Fr.of hst (by kernel_rfl), F6, F7, F14, F9, F10, F11, F13, hB, hZ⟩)
      ·have hm := condF hb3 hm
       refine cW_drawnTail [] 7 (by kernel_rfl) (by kernel_rfl) (fun w12 hc11 => ?_)
       replace F6 := F6.chg hc11 Dj.nil
       replace F7 := F7.chg hc11 notNil
       replace F8 := F8.chg hc11 Dj.nil
       replace F9 := F9.chg hc11 notNil
       replace F10 := F10.chg hc11 Dj.nil
       replace F11 := F11.chg hc11 notNil
       replace F13 := F13.chg hc11 notNil
       replace hB := hB.inS hc11 inNil
       replace hZ := Nat.le_trans hZ hc11.size
       have hS := Chg.refl [] w12
       have Z21 := F6
       have Z22 := F7
       have Z23 := F8
       have Z24 := F9
       have Z25 := F10
       have Z26 := F11
       have Z27 := F13
       refine wH_take [0, 1, 2] [2, 1, 0] [(49, .pointer (some ⟨b0, 5, none⟩)), (48, .pointer (some ⟨b0, 0, none⟩)), (47, .pointer (some ⟨b0, 0, none⟩))] (by kernel_rfl) (qT (qT (qT (qT (qB (qL (qB (qT (qT qZ))))))))) (by kernel_rfl) ?_
       refine wH_load1 (i := 3) (d := 50) (T := 84) (ad := ⟨b0, 5, none⟩) (v := .map (some b0_5)) (by kernel_rfl) (qT (qT (qT (qT (qB (qL (qB (qT (qT qZ))))))))) (by kernel_rfl) (by kernel_rfl) vt84 (fun W hW => (Z24.chg hW notNil).cell 5) ?_
       refine wH_loadA (i := 4) (d := 51) (T := 92) (ad := ⟨b4, 0, none⟩) (vs := [.int .i64 ((y1).1), .int .i64 ((y1).2.1), .bool ((y1).2.2)]) (by kernel_rfl) (qT (qT (qT (qT (qB (qL (qB (qT (qT qZ))))))))) (by kernel_rfl) (by kernel_rfl) vt92 (fun W hW i u hu => box_cells (Z27.chg hW notNil) 0 hu (by rfl)) ?_
       refine wH_loadA (i := 5) (d := 52) (T := 92) (ad := ⟨b2, 0, none⟩) (vs := [.int .i64 (x1), .int .i64 (x2), .bool (x3)]) (by kernel_rfl) (qT (qT (qT (qT (qB (qL (qB (qT (qT qZ))))))))) (by kernel_rfl) (by kernel_rfl) vt92 (fun W hW i u hu => box_cells (Z26.chg hW notNil) 0 hu (by rfl)) ?_
       refine wH_take [6] [6, 5, 4, 3, 2, 1, 0] [(53, .agg #[.int .i64 ((y1).1), .int .i64 ((y1).2.1), .bool ((y1).2.2), .int .i64 (x1), .int .i64 (x2), .bool (x3)])] (by kernel_rfl) (qT (qT (qT (qT (qB (qL (qB (qT (qT qZ))))))))) (by kernel_rfl) ?_
       refine wH_done (by kernel_rfl) ?_
       refine eX_tail ?_
       obtain ⟨_, hk3, hm⟩ := bindE hm
       refine wS_mup (k := ((y1).1, (y1).2.1, (y1).2.2, x1, x2, x3)) (x := true) (T := 84) (by kernel_rfl) rfl rfl mk84 mp84 F8 (mpE hk3) ?_
       intro w13 F15 hc12
       replace F6 := F6.chg hc12 (J0_5__0_0_0).symm
       replace F7 := F7.chg hc12 (dj1 (J0_5__0_0).symm)
       replace F9 := F9.chg hc12 (dj1 (J0_5__0).symm)
       replace F10 := F10.chg hc12 (J0_5__1).symm
       replace F11 := F11.chg hc12 (dj1 (Dj.of L0_5 (low1 G1)).symm)
       replace F13 := F13.chg hc12 (dj1 (Dj.of L0_5 (low1 G3)).symm)
       replace hB := hB.inS hc12 (inMem (fun x hx => (List.mem_append_left _ hx)))
       replace hZ := Nat.le_trans hZ hc12.size
       clear F8
       refine wS_end (by rfl) ?_
       have hq : (some (mup l3 (((y1).1, (y1).2.1, (y1).2.2, x1, x2, x3)) true) : Option ((List ((Int × Int × Bool × Int × Int × Bool) × Bool)))) = some _ := hm
       replace hq := someE hq
       subst hq
       exact eX_J (fun hst => ⟨mup l3 (((y1).1, (y1).2.1, (y1).2.2, x1, x2, x3)) true, rfl, Fr.of hst (by kernel_rfl), F6, F7, F15, F9, F10, F11, F13, hB, hZ⟩)
     ·rintro a' w14 ⟨l5, hJ, hF2, F16, F17, F18, F19, F20, F21, F22, hB, hZ⟩
      subst hJ
      refine Fr.goX hF2 (by kernel_rfl) ?_
      refine eX_then ?_
      refine cW_region ?_
      refine wS_loadA (d := 54) (T := 92) (ad := ⟨b4, 0, none⟩) (vs := [.int .i64 ((y1).1), .int .i64 ((y1).2.1), .bool ((y1).2.2)]) (by kernel_rfl) vt92 (fun i u hu => box_cells F22 0 hu (by rfl)) ?_
      refine wS_store (T := 92) (g := b2) (o := 0) (ad := ⟨b2, 0, none⟩) (v := .agg #[.int .i64 ((y1).1), .int .i64 ((y1).2.1), .bool ((y1).2.2)]) (vs := [.int .i64 ((y1).1), .int .i64 ((y1).2.1), .bool ((y1).2.2)]) (by kernel_rfl) (by rfl) sz92 (by rfl) (by rfl) F21 (by simp only [List.length_cons, List.length_nil]; omega) ?_
      intro w15 F23 hc13
      replace F16 := F16.chg hc13 (Dj.of L0_0_0 (low1 G1))
      replace F17 := F17.chg hc13 (dj1 (Dj.of L0_0 (low1 G1)))
      replace F18 := F18.chg hc13 (Dj.of L0_5 (low1 G1))
      replace F19 := F19.chg hc13 (dj1 (Dj.of L0 (low1 G1)))
      replace F20 := F20.chg hc13 (Dj.of L1 (low1 G1))
      replace F22 := F22.chg hc13 (dj1 (D2).symm)
      replace hB := hB.inS hc13 (inLow (low1 G1))
      replace hZ := Nat.le_trans hZ hc13.size
      replace F23 : Cl w15 b2 92 [.int .i64 ((y1).1), .int .i64 ((y1).2.1), .bool ((y1).2.2)] := F23
      clear F21
      refine wS_end (by rfl) ?_
      have hq : (some (((y1).1, (y1).2.1, (y1).2.2, l5)) : Option (Int × Int × Bool × (List ((Int × Int × Bool × Int × Int × Bool) × Bool)))) = some _ := hm
      replace hq := someE hq
      subst hq
      exact eX_J (fun hst => ⟨(y1).1, (y1).2.1, (y1).2.2, l5, rfl, Fr.of hst (by kernel_rfl), F16, F17, F18, F19, F20, F23, hB, hZ⟩)
    ·rintro a' w16 ⟨x4, x5, x6, l4, hJ, hF3, F24, F25, F26, F27, F28, F29, hB, hZ⟩
     subst hJ
     refine Fr.goX hF3 (by kernel_rfl) ?_
     refine eX_block ?_
     have hq : (some (Ctl.next ((x4, x5, x6, l4))) : Option (Ctl (Int × Int × Bool × (List ((Int × Int × Bool × Int × Int × Bool) × Bool))) ((List ((Int × Int × Bool × Int × Int × Bool) × Bool))))) = some _ := hm
     replace hq := someE hq
     subst hq
     exact eX_next hx1 (fun hst => ⟨x4, x5, x6, l4, rfl, Fr.of hst (by kernel_rfl), F24, F25, F26, F27, F28, F29, hB, hZ⟩)
   ·have hm := condF hb2 hm
    refine cW_exit ?_
    refine eX_then_exit ?_
    have hq : (some (Ctl.out l3) : Option (Ctl (Int × Int × Bool × (List ((Int × Int × Bool × Int × Int × Bool) × Bool))) ((List ((Int × Int × Bool × Int × Int × Bool) × Bool))))) = some _ := hm
    replace hq := someE hq
    subst hq
    refine eX_outX hx1 (fun hr2 => ?_)
    replace hr2 := hr2.symm
    subst hr2
    refine eX_block_hit ?_
    exact eX_J (fun hst => ⟨l3, rfl, Fr.of hst (by kernel_rfl), F8, hB, hZ⟩)
  ·rintro a' w17 ⟨l2, hJ, hF4, F30, hB, hZ⟩
   subst hJ
   refine Fr.goX hF4 (by kernel_rfl) ?_
   refine eX_then ?_
   refine cW_seq ?_
   refine cW_region ?_
   refine wS_pure 1 [(4, .bool (true))] (by kernel_rfl) ?_
   refine wS_end (by rfl) ?_
   refine eX_then ?_
   refine cW_ret ?_
   have hq : (some ((true, l2)) : Option ((Bool) × (List ((Int × Int × Bool × Int × Int × Bool) × Bool)))) = some _ := hm
   replace hq := someE hq
   subst hq
   refine eX_ret (vs := [.bool (true)]) [.tmp 4] (by rfl) ⟨by (show lkE _ _ _ = _); kernel_rfl, trivial⟩ ?_
   exact ⟨rfl, F30, hB⟩

set_option maxRecDepth 100000 in
/-- impl.apart -/
theorem c_impl_apart {w0 : World} {l0_0 : List (List (Int))} {A0_0 : Option Addr} {cap0_0 : Nat} {fp0_0 : List Nat} {p1_0 : Int} {p1_1 : Int} {p2_0 : Int} {p2_1 : Int} {r : (Int) × (List (Int × Int))} (hm : m_impl_apart l0_0 p1_0 p1_1 p2_0 p2_1 = some r) (F0_0 : SlR 1 encI w0 fp0_0 A0_0 l0_0) :
  Calls Try.prog 29 #[.agg #[.slice A0_0 (l0_0).length cap0_0], .agg #[.int .i64 (p1_0), .int .i64 (p1_1)], .agg #[.int .i64 (p2_0), .int .i64 (p2_1)]] w0 fun e w' => ∃ A101 cap101 fp101, e = .returned (.tuple #[.int .i64 (r.1), .slice A101 (r.2).length cap101]) ∧ Ow 2 encII 29 w' fp101 A101 cap101 r.2 ∧ (∀ x ∈ fp101, w0.heap.size ≤ x) ∧ Chg [] w0 w' := by
 have L0_0 := F0_0.low
 have hB : Chg [] w0 w0 := Chg.refl _ _
 have hZ := Nat.le_refl w0.heap.size
 unfold m_impl_apart at hm
 refine enterE (N := 59) Try.func29 (by rfl) Try.ntmps29 (by simp) [(0, .agg #[.slice A0_0 (l0_0).length cap0_0]), (1, .agg #[.int .i64 (p1_0), .int .i64 (p1_1)]), (2, .agg #[.int .i64 (p2_0), .int .i64 (p2_1)])] (by rfl) (by kernel_rfl) (fun a => ?_)
 refine cW_seq ?_
 refine cW_region ?_
 refine wS_box (d := 3) (T := 26) (x := .agg #[.slice A0_0 (l0_0).length cap0_0]) (by kernel_rfl) ?_
 intro b1 w1 G1 F1 hc1
 replace F1 : Cl w1 b1 26 [.slice A0_0 (l0_0).length cap0_0] := F1
 replace F0_0 := F0_0.chg hc1 Dj.nil
 replace hB := hB.inS hc1 inNil
 replace G1 := Nat.le_trans hZ G1
 replace hZ := Nat.le_trans hZ hc1.size
 refine wS_box (d := 4) (T := 29) (x := .agg #[.int .i64 (p1_0), .int .i64 (p1_1)]) (by kernel_rfl) ?_
 intro b2 w2 G2 F2 hc2
 replace F2 : Cl w2 b2 29 [.int .i64 (p1_0), .int .i64 (p1_1)] := F2
 have D1 : Dj [b1] [b2] := Dj.of (lt1 F1.lt) (low1 G2)
 replace F0_0 := F0_0.chg hc2 Dj.nil
 replace F1 := F1.chg hc2 notNil
 replace hB := hB.inS hc2 inNil
 replace G2 := Nat.le_trans hZ G2
 replace hZ := Nat.le_trans hZ hc2.size
 refine wS_box (d := 5) (T := 29) (x := .agg #[.int .i64 (p2_0), .int .i64 (p2_1)]) (by kernel_rfl) ?_
 intro b3 w3 G3 F3 hc3
 replace F3 : Cl w3 b3 29 [.int .i64 (p2_0), .int .i64 (p2_1)] := F3
 have D2 : Dj [b1] [b3] := Dj.of (lt1 F1.lt) (low1 G3)
 have D3 : Dj [b2] [b3] := Dj.of (lt1 F2.lt) (low1 G3)
 replace F0_0 := F0_0.chg hc3 Dj.nil
 replace F1 := F1.chg hc3 notNil
 replace F2 := F2.chg hc3 notNil
 replace hB := hB.inS hc3 inNil
 replace G3 := Nat.le_trans hZ G3
 replace hZ := Nat.le_trans hZ hc3.size
 refine wS_pure 2 [(7, .slice none 0 0), (6, .int .i64 (0))] (by kernel_rfl) ?_
 refine wS_end (by rfl) ?_
 refine eX_then ?_
 refine cW_seq ?_
 refine cW_region ?_
 refine wS_loadA (d := 15) (T := 29) (ad := ⟨b2, 0, none⟩) (vs := [.int .i64 (p1_0), .int .i64 (p1_1)]) (by kernel_rfl) vt29 (fun i u hu => box_cells F2 0 hu (by rfl)) ?_
 refine wS_loadA (d := 16) (T := 29) (ad := ⟨b3, 0, none⟩) (vs := [.int .i64 (p2_0), .int .i64 (p2_1)]) (by kernel_rfl) vt29 (fun i u hu => box_cells F3 0 hu (by rfl)) ?_
 refine wS_makeMap (V := Bool) (d := 17) (T := 84) (by kernel_rfl) okIIBIIB ekIIBIIB vB ?_
 intro b4 w4 G4 F4 hc4
 have D4 : Dj [b1] [b4] := Dj.of (lt1 F1.lt) (low1 G4)
 have D5 : Dj [b2] [b4] := Dj.of (lt1 F2.lt) (low1 G4)
 have D6 : Dj [b3] [b4] := Dj.of (lt1 F3.lt) (low1 G4)
 replace F0_0 := F0_0.chg hc4 Dj.nil
 replace F1 := F1.chg hc4 notNil
 replace F2 := F2.chg hc4 notNil
 replace F3 := F3.chg hc4 notNil
 replace hB := hB.inS hc4 inNil
 replace G4 := Nat.le_trans hZ G4
 replace G4 := low1 G4
 replace hZ := Nat.le_trans hZ hc4.size
 refine wS_pure 1 [(18, .agg #[.pointer (some ⟨b1, 0, none⟩), .int .i64 (p1_0), .int .i64 (p1_1), .int .i64 (p2_0), .int .i64 (p2_1), .map (some b4)])] (by kernel_rfl) ?_
 refine wS_alloc (d := 8) (T := 86) (z := .agg #[.pointer none, .int .i64 (0), .int .i64 (0), .int .i64 (0), .int .i64 (0), .map none]) (by kernel_rfl) (by kernel_rfl) ?_
 intro b5 w5 G5 F5 hc5
 replace F5 : Cl w5 b5 86 [.pointer none, .int .i64 (0), .int .i64 (0), .int .i64 (0), .int .i64 (0), .map none] := F5
 have D7 : Dj [b1] [b5] := Dj.of (lt1 F1.lt) (low1 G5)
 have D8 : Dj [b2] [b5] := Dj.of (lt1 F2.lt) (low1 G5)
 have D9 : Dj [b3] [b5] := Dj.of (lt1 F3.lt) (low1 G5)
 have D10 : Dj [b4] [b5] := Dj.of F4.low (low1 G5)
 replace F0_0 := F0_0.chg hc5 Dj.nil
 replace F1 := F1.chg hc5 notNil
 replace F2 := F2.chg hc5 notNil
 replace F3 := F3.chg hc5 notNil
 replace F4 := F4.chg hc5 Dj.nil
 replace hB := hB.inS hc5 inNil
 replace G5 := Nat.le_trans hZ G5
 replace hZ := Nat.le_trans hZ hc5.size
 refine wS_store (T := 86) (g := b5) (o := 0) (ad := ⟨b5, 0, none⟩) (v := .agg #[.pointer (some ⟨b1, 0, none⟩), .int .i64 (p1_0), .int .i64 (p1_1), .int .i64 (p2_0), .int .i64 (p2_1), .map (some b4)]) (vs := [.pointer (some ⟨b1, 0, none⟩), .int .i64 (p1_0), .int .i64 (p1_1), .int .i64 (p2_0), .int .i64 (p2_1), .map (some b4)]) (by kernel_rfl) (by rfl) sz86 (by rfl) (by rfl) F5 (by simp only [List.length_cons, List.length_nil]; omega) ?_
 intro w6 F6 hc6
 replace F0_0 := F0_0.chg hc6 (Dj.of L0_0 (low1 G5))
 replace F1 := F1.chg hc6 (dj1 D7)
 replace F2 := F2.chg hc6 (dj1 D8)
 replace F3 := F3.chg hc6 (dj1 D9)
 replace F4 := F4.chg hc6 D10
 replace hB := hB.inS hc6 (inLow (low1 G5))
 replace hZ := Nat.le_trans hZ hc6.size
 replace F6 : Cl w6 b5 86 [.pointer (some ⟨b1, 0, none⟩), .int .i64 (p1_0), .int .i64 (p1_1), .int .i64 (p2_0), .int .i64 (p2_1), .map (some b4)] := F6
 clear F5
 refine wS_end (by rfl) ?_
 refine eX_then ?_
 refine cW_seq ?_
 refine cW_region ?_
 refine wS_pure 1 [(9, .int .i64 (0))] (by kernel_rfl) ?_
 refine wS_end (by rfl) ?_
 refine eX_then ?_
 refine cW_seq ?_
 refine cW_region ?_
 obtain ⟨y1, hy1, hm⟩ := bindE hm
 refine wS_calls (d := 19) (f := 47) (vs := [.pointer (some ⟨b5, 0, none⟩)]) (by kernel_rfl) ent47 (c_impl_flow_search_bimplflow_bimplMaze hy1 F0_0 F1 F4 F6) ?_
 rintro _ w7 ⟨b6, rfl, F7, G6, hc7⟩
 have D11 : Dj [b1] [b6] := Dj.of (lt1 F1.lt) G6
 have D12 : Dj [b2] [b6] := Dj.of (lt1 F2.lt) G6
 have D13 : Dj [b3] [b6] := Dj.of (lt1 F3.lt) G6
 have D14 : Dj [b4] [b6] := Dj.of F4.low G6
 have D15 : Dj [b5] [b6] := Dj.of (lt1 F6.lt) G6
 replace F0_0 := F0_0.chg hc7 Dj.nil
 replace F1 := F1.chg hc7 notNil
 replace F2 := F2.chg hc7 notNil
 replace F3 := F3.chg hc7 notNil
 replace F4 := F4.chg hc7 Dj.nil
 replace F6 := F6.chg hc7 notNil
 replace hB := hB.inS hc7 inNil
 replace G6 := low_le hZ G6
 replace hZ := Nat.le_trans hZ hc7.size
 refine ⟨.map (some b6), rfl, ?_⟩
 refine wS_pure 1 [(10, .map (some b6))] (by kernel_rfl) ?_
 refine wS_end (by rfl) ?_
 refine eX_then ?_
 refine cW_seq ?_
 obtain ⟨r1, hr1, hm⟩ := bindE hm
 have hm1 := hm
 refine cW_cut (fun a' w' => ∃ x1 : Int, ∃ l1 : List ((Int × Int × Bool) × (Int × Int × Bool)), ∃ b7 : Nat, (x1, l1) = r1 ∧ Fr 59 [(4, .pointer (some ⟨b2, 0, none⟩)), (9, .int .i64 (x1)), (10, .map (some b7))] a' ∧ Cl w' b2 29 [.int .i64 (p1_0), .int .i64 (p1_1)] ∧ Mp okIIB ekIIB ekIIB w' b7 l1 ∧ (∀ x ∈ [b7], w0.heap.size ≤ x) ∧ Dj [b2] [b7] ∧ Chg [] w0 w' ∧ w0.heap.size ≤ w'.heap.size) ?_ ?_
 ·refine cW_block ?_
  refine cW_loop _ (fun (s1 : Int × (List ((Int × Int × Bool) × (Int × Int × Bool))) × (List ((Int × Int × Bool × Int × Int × Bool) × Bool))) a' w' => ∃ x2 : Int, ∃ l2 : List ((Int × Int × Bool) × (Int × Int × Bool)), ∃ b8 : Nat, ∃ l3 : List ((Int × Int × Bool × Int × Int × Bool) × Bool), (x2, l2, l3) = s1 ∧ Fr 59 [(4, .pointer (some ⟨b2, 0, none⟩)), (8, .pointer (some ⟨b5, 0, none⟩)), (9, .int .i64 (x2)), (10, .map (some b8))] a' ∧ SlR 1 encI w' fp0_0 A0_0 l0_0 ∧ Cl w' b1 26 [.slice A0_0 (l0_0).length cap0_0] ∧ Cl w' b2 29 [.int .i64 (p1_0), .int .i64 (p1_1)] ∧ Mp okIIBIIB ekIIBIIB vB w' b4 l3 ∧ Cl w' b5 86 [.pointer (some ⟨b1, 0, none⟩), .int .i64 (p1_0), .int .i64 (p1_1), .int .i64 (p2_0), .int .i64 (p2_1), .map (some b4)] ∧ Mp okIIB ekIIB ekIIB w' b8 l2 ∧ (∀ x ∈ [b8], w0.heap.size ≤ x) ∧ Dj [b1] [b8] ∧ Dj [b2] [b8] ∧ Dj [b4] [b8] ∧ Dj [b5] [b8] ∧ Chg [] w0 w' ∧ w0.heap.size ≤ w'.heap.size) hr1 (fun hst => ⟨0, y1, b6, ([] : List ((Int × Int × Bool × Int × Int × Bool) × Bool)), rfl, Fr.of hst (by kernel_rfl), F0_0, F1, F2, F4, F6, F7, G6, D11, D12, D14, D15, hB, hZ⟩) ?_
  rintro _ c1 a' w8 ⟨x2, l2, b8, l3, rfl, hF1, F8, F9, F10, F11, F12, F13, G7, D16, D17, D18, D19, hB, hZ⟩ hx1
  refine Fr.goOn hF1 (by kernel_rfl) ?_
  have hm := hx1
  unfold m_impl_apart_s1 at hm
  refine cW_seq ?_
  refine cW_seq ?_
  refine cW_region ?_
  refine wS_pure 1 [(20, .map (some b8))] (by kernel_rfl) ?_
  obtain ⟨y2, hy2, hm⟩ := bindE hm
  refine wS_calls (d := 21) (f := 48) (vs := [.pointer (some ⟨b5, 0, none⟩), .map (some b8)]) (by kernel_rfl) ent48 (c_impl_flow_push_bimplflow_bimplMaze hy2 F8 F9 F11 F12 F13 (Dj.of L0_0 G4).symm (D4).symm D10 D18) ?_
  rintro _ w9 ⟨rfl, F14, hc8⟩
  replace F8 := F8.chg hc8 (Dj.app (Dj.of L0_0 G4) Dj.nil)
  replace F9 := F9.chg hc8 (dj1 (Dj.app D4 Dj.nil))
  replace F10 := F10.chg hc8 (dj1 (Dj.app D5 Dj.nil))
  replace F12 := F12.chg hc8 (dj1 (Dj.app (D10).symm Dj.nil))
  replace F13 := F13.chg hc8 (Dj.app (D18).symm Dj.nil)
  replace hB := hB.inS hc8 (inApp (inLow G4) inNil)
  replace hZ := Nat.le_trans hZ hc8.size
  clear F11
  refine ⟨.bool (y2.1), rfl, ?_⟩
  refine wS_end (by rfl) ?_
  refine eX_then ?_
  refine cW_cond (t := y2.1) (by kernel_rfl) (fun hb1 => ?_) (fun hb1 => ?_)
  ·have hm := condT hb1 hm
   refine cW_skip ?_
   refine eX_then ?_
   refine cW_block ?_
   refine cW_seq ?_
   refine cW_region ?_
   refine wS_pure 3 [(9, .int .i64 (wr (x2 + 1))), (23, .int .i64 (wr (x2 + 1))), (22, .int .i64 (x2))] (by kernel_rfl) ?_
   refine wS_end (by rfl) ?_
   refine eX_then ?_
   refine cW_region ?_
   obtain ⟨y3, hy3, hm⟩ := bindE hm
   refine wS_calls (d := 24) (f := 47) (vs := [.pointer (some ⟨b5, 0, none⟩)]) (by kernel_rfl) ent47 (c_impl_flow_search_bimplflow_bimplMaze hy3 F8 F9 F14 F12) ?_
   rintro _ w10 ⟨b9, rfl, F15, G8, hc9⟩
   have D20 : Dj [b1] [b9] := Dj.of (lt1 F9.lt) G8
   have D21 : Dj [b2] [b9] := Dj.of (lt1 F10.lt) G8
   have D22 : Dj [b4] [b9] := Dj.of F14.low G8
   have D23 : Dj [b5] [b9] := Dj.of (lt1 F12.lt) G8
   have D24 : Dj [b8] [b9] := Dj.of F13.low G8
   replace F8 := F8.chg hc9 Dj.nil
   replace F9 := F9.chg hc9 notNil
   replace F10 := F10.chg hc9 notNil
   replace F14 := F14.chg hc9 Dj.nil
   replace F12 := F12.chg hc9 notNil
   replace F13 := F13.chg hc9 Dj.nil
   replace hB := hB.inS hc9 inNil
   replace G8 := low_le hZ G8
   replace hZ := Nat.le_trans hZ hc9.size
   refine ⟨.map (some b9), rfl, ?_⟩
   refine wS_pure 1 [(10, .map (some b9))] (by kernel_rfl) ?_
   refine wS_end (by rfl) ?_
   refine eX_block ?_
   have hq : (some (Ctl.next ((wr (x2 + 1), y3, y2.2))) : Option (Ctl (Int × (List ((Int × Int × Bool) × (Int × Int × Bool))) × (List ((Int × Int × Bool × Int × Int × Bool) × Bool))) (Int × (List ((Int × Int × Bool) × (Int × Int × Bool)))))) = some _ := hm
   replace hq := someE hq
   subst hq
   exact eX_next hx1 (fun hst => ⟨wr (x2 + 1), y3, b9, y2.2, rfl, Fr.of hst (by kernel_rfl), F8, F9, F10, F14, F12, F15, G8, D20, D21, D22, D23, hB, hZ⟩)
  ·have hm := condF hb1 hm
   refine cW_exit ?_
   refine eX_then_exit ?_
   have hq : (some (Ctl.out ((x2, l2))) : Option (Ctl (Int × (List ((Int × Int × Bool) × (Int × Int × Bool))) × (List ((Int × Int × Bool × Int × Int × Bool) × Bool))) (Int × (List ((Int × Int × Bool) × (Int × Int × Bool)))))) = some _ := hm
   replace hq := someE hq
   subst hq
   refine eX_outX hx1 (fun hr2 => ?_)
   replace hr2 := hr2.symm
   subst hr2
   refine eX_block_hit ?_
   exact eX_J (fun hst => ⟨x2, l2, b8, rfl, Fr.of hst (by kernel_rfl), F10, F13, G7, D17, hB, hZ⟩)
 ·rintro a' w11 ⟨x1, l1, b7, hJ, hF2, F16, F17, G9, D25, hB, hZ⟩
  subst hJ
  refine Fr.goX hF2 (by kernel_rfl) ?_
  refine eX_then ?_
  refine cW_seq ?_
  refine cW_region ?_
  refine wS_makeMap (V := Bool) (d := 25) (T := 90) (by kernel_rfl) okII ekII vB ?_
  intro b10 w12 G10 F18 hc10
  have D26 : Dj [b2] [b10] := Dj.of (lt1 F16.lt) (low1 G10)
  have D27 : Dj [b7] [b10] := Dj.of F17.low (low1 G10)
  replace F16 := F16.chg hc10 notNil
  replace F17 := F17.chg hc10 Dj.nil
  replace hB := hB.inS hc10 inNil
  replace G10 := Nat.le_trans hZ G10
  replace G10 := low1 G10
  replace hZ := Nat.le_trans hZ hc10.size
  refine wS_pure 1 [(11, .map (some b10))] (by kernel_rfl) ?_
  refine wS_end (by rfl) ?_
  refine eX_then ?_
  refine cW_seq ?_
  refine cW_seq ?_
  refine cW_region ?_
  refine wS_pure 1 [(26, .map (some b7))] (by kernel_rfl) ?_
  refine wS_range (d := 27) (T := 87) (by kernel_rfl) mp87 F17 ?_
  intro b11 w13 G11 F19 hc11
  have D28 : Dj [b2] [b11] := Dj.of (lt1 F16.lt) (low1 G11)
  have D29 : Dj [b7] [b11] := Dj.of F17.low (low1 G11)
  have D30 : Dj [b10] [b11] := Dj.of F18.low (low1 G11)
  replace F16 := F16.chg hc11 notNil
  replace F17 := F17.chg hc11 Dj.nil
  replace F18 := F18.chg hc11 Dj.nil
  replace hB := hB.inS hc11 inNil
  replace G11 := Nat.le_trans hZ G11
  replace G11 := low1 G11
  replace hZ := Nat.le_trans hZ hc11.size
  refine wS_end (by rfl) ?_
  refine eX_then ?_
  have hA1 := allO_some hm
  refine cW_cut (fun a' w' => ∃ lo1 : List ((Int × Int × Bool) × (Int × Int × Bool)), ∃ l4 : List ((Int × Int) × Bool), lo1.Perm l1 ∧ foldR (m_impl_apart_s2 p1_0 p1_1 l1) (([] : List ((Int × Int) × Bool))) lo1 = some l4 ∧ Fr 59 [(9, .int .i64 (x1)), (11, .map (some b10))] a' ∧ Mp okII ekII vB w' b10 l4 ∧ Chg [] w0 w' ∧ w0.heap.size ≤ w'.heap.size) ?_ ?_
  ·refine cW_block ?_
   refine cW_loop cdn (fun (n1 : Nat) a' w' => ∃ ld1 : List ((Int × Int × Bool) × (Int × Int × Bool)), ∃ lr1 : List ((Int × Int × Bool) × (Int × Int × Bool)), ∃ l5 : List ((Int × Int) × Bool), lr1.length = n1 ∧ (ld1 ++ lr1).Perm l1 ∧ foldR (m_impl_apart_s2 p1_0 p1_1 l1) (([] : List ((Int × Int) × Bool))) ld1 = some l5 ∧ Fr 59 [(4, .pointer (some ⟨b2, 0, none⟩)), (9, .int .i64 (x1)), (10, .map (some b7)), (11, .map (some b10)), (27, .pointer (some ⟨b11, 0, none⟩))] a' ∧ Cl w' b2 29 [.int .i64 (p1_0), .int .i64 (p1_1)] ∧ Mp okIIB ekIIB ekIIB w' b7 l1 ∧ Mp okII ekII vB w' b10 l5 ∧ RgE okIIB ekIIB ekIIB w' b7 b11 l1 lr1 ∧ Chg [] w0 w' ∧ w0.heap.size ≤ w'.heap.size) (cdn_run _) (fun hst => ⟨[], l1, ([] : List ((Int × Int) × Bool)), rfl, (List.Perm.refl _), rfl, Fr.of hst (by kernel_rfl), F16, F17, F18, F19, hB, hZ⟩) ?_
   rintro n1 c_ a' w14 ⟨ld1, lr1, l5, hn1, hP1, hF3, hF4, F20, F21, F22, F23, hB, hZ⟩ hx2
   refine Fr.goOn hF4 (by kernel_rfl) ?_
   refine cW_seq ?_
   refine cW_region ?_
   refine wS_next (d := 28) (by kernel_rfl) F23 (fun hnil1 => ?_) (fun pa1 p1 pd1 w15 hsp1 F24 hc12 => ?_)
   ·skip
    refine wS_pure 1 [(29, .bool (false))] (by kernel_rfl) ?_
    refine wS_end (by rfl) ?_
    refine eX_then ?_
    refine cW_seq ?_
    refine cW_cond_f (by kernel_rfl) ?_
    refine cW_exit ?_
    refine eX_then_exit ?_
    refine eX_outX (cdn_0 hn1 hnil1) (fun _ => ?_)
    refine eX_block_hit ?_
    exact eX_J (fun hst => ⟨ld1, l5, (perm_end hP1 hnil1), hF3, Fr.of hst (by kernel_rfl), F22, hB, hZ⟩)
   ·skip
    obtain ⟨s2, hs1⟩ := foldR_step hF3 (hA1 _ (perm_pick hP1 hsp1))
    have hm := hs1
    unfold m_impl_apart_s2 at hm
    replace F20 := F20.chg hc12 (dj1 D28)
    replace F21 := F21.chg hc12 D29
    replace F22 := F22.chg hc12 D30
    replace hB := hB.inS hc12 (inLow G11)
    replace hZ := Nat.le_trans hZ hc12.size
    clear F23
    refine wS_pure 1 [(29, .bool (true))] (by kernel_rfl) ?_
    refine wS_end (by rfl) ?_
    refine eX_then ?_
    refine cW_seq ?_
    refine cW_cond_t (by kernel_rfl) ?_
    refine cW_skip ?_
    refine eX_then ?_
    refine cW_block ?_
    obtain ⟨s3, hs2, hm⟩ := bindE hm
    refine cW_cut (fun a' w' => ∃ l6 : List ((Int × Int) × Bool), l6 = s3 ∧ Fr 59 [(4, .pointer (some ⟨b2, 0, none⟩)), (9, .int .i64 (x1)), (10, .map (some b7)), (11, .map (some b10)), (27, .pointer (some ⟨b11, 0, none⟩))] a' ∧ Cl w' b2 29 [.int .i64 (p1_0), .int .i64 (p1_1)] ∧ Mp okIIB ekIIB ekIIB w' b7 l1 ∧ Mp okII ekII vB w' b10 l6 ∧ RgE okIIB ekIIB ekIIB w' b7 b11 l1 (pa1 ++ pd1) ∧ Chg [] w0 w' ∧ w0.heap.size ≤ w'.heap.size) ?_ ?_
    ·have hm := hs2
     refine cW_seq ?_
     refine cW_region ?_
     refine wS_ntry (d := 30) (by kernel_rfl) F24 ?_
     refine wS_pure 1 [(31, .agg #[.int .i64 (p1.1.1), .int .i64 (p1.1.2.1), .bool (p1.1.2.2)])] (by kernel_rfl) ?_
     refine wS_alloc (d := 12) (T := 92) (z := .agg #[.int .i64 (0), .int .i64 (0), .bool (false)]) (by kernel_rfl) (by kernel_rfl) ?_
     intro b12 w16 G12 F25 hc13
     replace F25 : Cl w16 b12 92 [.int .i64 (0), .int .i64 (0), .bool (false)] := F25
     have D31 : Dj [b2] [b12] := Dj.of (lt1 F20.lt) (low1 G12)
     have D32 : Dj [b7] [b12] := Dj.of F21.low (low1 G12)
     have D33 : Dj [b10] [b12] := Dj.of F22.low (low1 G12)
     have D34 : Dj [b11] [b12] := Dj.of F24.low (low1 G12)
     replace F20 := F20.chg hc13 notNil
     replace F21 := F21.chg hc13 Dj.nil
     replace F22 := F22.chg hc13 Dj.nil
     replace F24 := F24.chg hc13 Dj.nil Dj.nil
     replace hB := hB.inS hc13 inNil
     replace G12 := Nat.le_trans hZ G12
     replace hZ := Nat.le_trans hZ hc13.size
     refine wS_store (T := 92) (g := b12) (o := 0) (ad := ⟨b12, 0, none⟩) (v := .agg #[.int .i64 (p1.1.1), .int .i64 (p1.1.2.1), .bool (p1.1.2.2)]) (vs := [.int .i64 (p1.1.1), .int .i64 (p1.1.2.1), .bool (p1.1.2.2)]) (by kernel_rfl) (by rfl) sz92 (by rfl) (by rfl) F25 (by simp only [List.length_cons, List.length_nil]; omega) ?_
     intro w17 F26 hc14
     replace F20 := F20.chg hc14 (dj1 D31)
     replace F21 := F21.chg hc14 D32
     replace F22 := F22.chg hc14 D33
     replace F24 := F24.chg hc14 D32 D34
     replace hB := hB.inS hc14 (inLow (low1 G12))
     replace hZ := Nat.le_trans hZ hc14.size
     replace F26 : Cl w17 b12 92 [.int .i64 (p1.1.1), .int .i64 (p1.1.2.1), .bool (p1.1.2.2)] := F26
     clear F25
     refine wS_end (by rfl) ?_
     refine eX_then ?_
     refine cW_seq ?_
     refine cW_region ?_
     refine wS_pure 2 [(34, .pointer (some ⟨b12, 0, none⟩)), (33, .map (some b7))] (by kernel_rfl) ?_
     refine wS_loadA (d := 35) (T := 29) (ad := ⟨b12, 0, none⟩) (vs := [.int .i64 (p1.1.1), .int .i64 (p1.1.2.1)]) (by kernel_rfl) vt29 (fun i u hu => box_cells F26 0 hu (by rfl)) ?_
     refine wS_pure 1 [(36, .agg #[.int .i64 (p1.1.1), .int .i64 (p1.1.2.1), .bool (true)])] (by kernel_rfl) ?_
     obtain ⟨_, hk1, hm⟩ := bindE hm
     refine wS_lookOk (k := (p1.1.1, p1.1.2.1, true)) (d := 37) (T := 87) (by kernel_rfl) rfl mk87 mp87 F21 (mpE hk1) ?_
     refine wS_pure 3 [(39, .bool ((mget l1 ((p1.1.1, p1.1.2.1, true))).isSome)), (38, .agg #[.int .i64 (((mget l1 ((p1.1.1, p1.1.2.1, true))).getD (0, 0, false)).1), .int .i64 (((mget l1 ((p1.1.1, p1.1.2.1, true))).getD (0, 0, false)).2.1), .bool (((mget l1 ((p1.1.1, p1.1.2.1, true))).getD (0, 0, false)).2.2)]), (32, .tuple #[.agg #[.int .i64 (((mget l1 ((p1.1.1, p1.1.2.1, true))).getD (0, 0, false)).1), .int .i64 (((mget l1 ((p1.1.1, p1.1.2.1, true))).getD (0, 0, false)).2.1), .bool (((mget l1 ((p1.1.1, p1.1.2.1, true))).getD (0, 0, false)).2.2)], .bool ((mget l1 ((p1.1.1, p1.1.2.1, true))).isSome)])] (by kernel_rfl) ?_
     refine wS_alloc (d := 13) (T := 92) (z := .agg #[.int .i64 (0), .int .i64 (0), .bool (false)]) (by kernel_rfl) (by kernel_rfl) ?_
     intro b13 w18 G13 F27 hc15
     replace F27 : Cl w18 b13 92 [.int .i64 (0), .int .i64 (0), .bool (false)] := F27
     have D35 : Dj [b2] [b13] := Dj.of (lt1 F20.lt) (low1 G13)
     have D36 : Dj [b7] [b13] := Dj.of F21.low (low1 G13)
     have D37 : Dj [b10] [b13] := Dj.of F22.low (low1 G13)
     have D38 : Dj [b11] [b13] := Dj.of F24.low (low1 G13)
     have D39 : Dj [b12] [b13] := Dj.of (lt1 F26.lt) (low1 G13)
     replace F20 := F20.chg hc15 notNil
     replace F21 := F21.chg hc15 Dj.nil
     replace F22 := F22.chg hc15 Dj.nil
     replace F24 := F24.chg hc15 Dj.nil Dj.nil
     replace F26 := F26.chg hc15 notNil
     replace hB := hB.inS hc15 inNil
     replace G13 := Nat.le_trans hZ G13
     replace hZ := Nat.le_trans hZ hc15.size
     refine wS_store (T := 92) (g := b13) (o := 0) (ad := ⟨b13, 0, none⟩) (v := .agg #[.int .i64 (((mget l1 ((p1.1.1, p1.1.2.1, true))).getD (0, 0, false)).1), .int .i64 (((mget l1 ((p1.1.1, p1.1.2.1, true))).getD (0, 0, false)).2.1), .bool (((mget l1 ((p1.1.1, p1.1.2.1, true))).getD (0, 0, false)).2.2)]) (vs := [.int .i64 (((mget l1 ((p1.1.1, p1.1.2.1, true))).getD (0, 0, false)).1), .int .i64 (((mget l1 ((p1.1.1, p1.1.2.1, true))).getD (0, 0, false)).2.1), .bool (((mget l1 ((p1.1.1, p1.1.2.1, true))).getD (0, 0, false)).2.2)]) (by kernel_rfl) (by rfl) sz92 (by rfl) (by rfl) F27 (by simp only [List.length_cons, List.length_nil]; omega) ?_
     intro w19 F28 hc16
     replace F20 := F20.chg hc16 (dj1 D35)
     replace F21 := F21.chg hc16 D36
     replace F22 := F22.chg hc16 D37
     replace F24 := F24.chg hc16 D36 D38
     replace F26 := F26.chg hc16 (dj1 D39)
     replace hB := hB.inS hc16 (inLow (low1 G13))
     replace hZ := Nat.le_trans hZ hc16.size
     replace F28 : Cl w19 b13 92 [.int .i64 (((mget l1 ((p1.1.1, p1.1.2.1, true))).getD (0, 0, false)).1), .int .i64 (((mget l1 ((p1.1.1, p1.1.2.1, true))).getD (0, 0, false)).2.1), .bool (((mget l1 ((p1.1.1, p1.1.2.1, true))).getD (0, 0, false)).2.2)] := F28
     clear F27
     refine wS_pure 1 [(14, .bool ((mget l1 ((p1.1.1, p1.1.2.1, true))).isSome))] (by kernel_rfl) ?_
     refine wS_end (by rfl) ?_
     refine eX_then ?_
     refine cW_seq ?_
     refine cW_region ?_
     refine wS_pure 1 [(40, .pointer (some ⟨b12, 2, none⟩))] (by kernel_rfl) ?_
     refine wS_load1 (d := 41) (T := 4) (ad := ⟨b12, 2, none⟩) (v := .bool (p1.1.2.2)) (by kernel_rfl) vt4 ((F26).cell 2) ?_
     refine wS_pure 2 [(43, .bool (!p1.1.2.2)), (42, .bool (!p1.1.2.2))] (by kernel_rfl) ?_
     refine wS_bool (!p1.1.2.2) (fun hb2 => ?_) (fun hb2 => ?_)
     ·have hm := condT hb2 hm
      rewrite [hb2]
      refine wS_pure 4 [(47, .bool (!((mget l1 ((p1.1.1, p1.1.2.1, true))).isSome))), (46, .bool (!((mget l1 ((p1.1.1, p1.1.2.1, true))).isSome))), (45, .bool (!((mget l1 ((p1.1.1, p1.1.2.1, true))).isSome))), (44, .bool ((mget l1 ((p1.1.1, p1.1.2.1, true))).isSome))] (by kernel_rfl) ?_
      refine wS_bool (!((mget l1 ((p1.1.1, p1.1.2.1, true))).isSome)) (fun hb3 => ?_) (fun hb3 => ?_)
      ·have hm := condT hb3 hm
       rewrite [hb3]
       refine wS_pure 1 [(48, .pointer (some ⟨b12, 0, none⟩))] (by kernel_rfl) ?_
       refine wS_loadA (d := 49) (T := 29) (ad := ⟨b12, 0, none⟩) (vs := [.int .i64 (p1.1.1), .int .i64 (p1.1.2.1)]) (by kernel_rfl) vt29 (fun i u hu => box_cells F26 0 hu (by rfl)) ?_
       refine wS_loadA (d := 50) (T := 29) (ad := ⟨b2, 0, none⟩) (vs := [.int .i64 (p1_0), .int .i64 (p1_1)]) (by kernel_rfl) vt29 (fun i u hu => box_cells F20 0 hu (by rfl)) ?_
       refine wS_neS (d := 51) (T := 29) (x := p1.1.1) (y := p1.1.2.1) (x' := p1_0) (y' := p1_1) (by kernel_rfl) eq29 ?_
       refine wS_pure 1 [(52, .bool (!(p1.1.1 == p1_0 && p1.1.2.1 == p1_1)))] (by kernel_rfl) ?_
       refine wS_end (by rfl) ?_
       refine eX_then ?_
       refine cW_prune [(4, .pointer (some ⟨b2, 0, none⟩)), (9, .int .i64 (x1)), (10, .map (some b7)), (11, .map (some b10)), (12, .pointer (some ⟨b12, 0, none⟩)), (27, .pointer (some ⟨b11, 0, none⟩)), (52, .bool (!(p1.1.1 == p1_0 && p1.1.2.1 == p1_1)))] (by kernel_rfl) (by kernel_rfl) (fun a1 => ?_)
       refine cW_cond (t := !(p1.1.1 == p1_0 && p1.1.2.1 == p1_1)) (by kernel_rfl) (fun hb4 => ?_) (fun hb4 => ?_)
       ·have hm := condT hb4 hm
        refine cW_region ?_
        refine wS_pure 2 [(54, .pointer (some ⟨b12, 0, none⟩)), (53, .map (some b10))] (by kernel_rfl) ?_
        refine wS_loadA (d := 55) (T := 29) (ad := ⟨b12, 0, none⟩) (vs := [.int .i64 (p1.1.1), .int .i64 (p1.1.2.1)]) (by kernel_rfl) vt29 (fun i u hu => box_cells F26 0 hu (by rfl)) ?_
        obtain ⟨_, hk2, hm⟩ := bindE hm
        refine wS_mup (k := (p1.1.1, p1.1.2.1)) (x := true) (T := 90) (by kernel_rfl) rfl rfl mk90 mp90 F22 (mpE hk2) ?_
        intro w20 F29 hc17
        replace F20 := F20.chg hc17 (dj1 D26)
        replace F21 := F21.chg hc17 D27
        replace F24 := F24.chg hc17 D27 (D30).symm
        replace F26 := F26.chg hc17 (dj1 (D33).symm)
        replace F28 := F28.chg hc17 (dj1 (D37).symm)
        replace hB := hB.inS hc17 (inLow G10)
        replace hZ := Nat.le_trans hZ hc17.size
        clear F22
        refine wS_end (by rfl) ?_
        have hq : (some (mup l5 ((p1.1.1, p1.1.2.1)) true) : Option ((List ((Int × Int) × Bool)))) = some _ := hm
        replace hq := someE hq
        subst hq
        exact eX_J (fun hst => ⟨mup l5 ((p1.1.1, p1.1.2.1)) true, rfl, Fr.of hst (by kernel_rfl), F20, F21, F29, ⟨_, F24⟩, hB, hZ⟩)
       ·have hm := condF hb4 hm
        refine cW_skip ?_
        have hq : (some l5 : Option ((List ((Int × Int) × Bool)))) = some _ := hm
        replace hq := someE hq
        subst hq
        exact eX_J (fun hst => ⟨l5, rfl, Fr.of hst (by kernel_rfl), F20, F21, F22, ⟨_, F24⟩, hB, hZ⟩)
      ·have hm := condF hb3 hm
       rewrite [hb3]
       refine wS_pure 5 [(52, .bool (false)), (51, undef), (50, undef), (49, undef), (48, undef)] (by kernel_rfl) ?_
       refine wS_end (by rfl) ?_
       refine eX_then ?_
       refine cW_prune [(4, .pointer (some ⟨b2, 0, none⟩)), (9, .int .i64 (x1)), (10, .map (some b7)), (11, .map (some b10)), (12, .pointer (some ⟨b12, 0, none⟩)), (27, .pointer (some ⟨b11, 0, none⟩)), (52, .bool (false))] (by kernel_rfl) (by kernel_rfl) (fun a2 => ?_)
       refine cW_cond_f (by kernel_rfl) ?_
       refine cW_skip ?_
       have hq : (some l5 : Option ((List ((Int × Int) × Bool)))) = some _ := hm
       replace hq := someE hq
       subst hq
       exact eX_J (fun hst => ⟨l5, rfl, Fr.of hst (by kernel_rfl), F20, F21, F22, ⟨_, F24⟩, hB, hZ⟩)
     ·have hm := condF hb2 hm
      rewrite [hb2]
      refine wS_pure 9 [(52, .bool (false)), (51, undef), (50, undef), (49, undef), (48, undef), (47, .bool (false)), (46, .bool (false)), (45, undef), (44, undef)] (by kernel_rfl) ?_
      refine wS_end (by rfl) ?_
      refine eX_then ?_
      refine cW_prune [(4, .pointer (some ⟨b2, 0, none⟩)), (9, .int .i64 (x1)), (10, .map (some b7)), (11, .map (some b10)), (12, .pointer (some ⟨b12, 0, none⟩)), (27, .pointer (some ⟨b11, 0, none⟩)), (52, .bool (false))] (by kernel_rfl) (by kernel_rfl) (fun a3 => ?_)
      refine cW_cond_f (by kernel_rfl) ?_
      refine cW_skip ?_
      have hq : (some l5 : Option ((List ((Int × Int) × Bool)))) = some _ := hm
      replace hq := someE hq
      subst hq
      exact eX_J (fun hst => ⟨l5, rfl, Fr.of hst (by kernel_rfl), F20, F21, F22, ⟨_, F24⟩, hB, hZ⟩)
    ·rintro a' w21 ⟨l6, hJ, hF5, F30, F31, F32, F33, hB, hZ⟩
     subst hJ
     refine Fr.goX hF5 (by kernel_rfl) ?_
     refine eX_block ?_
     have hq := ctlE (show (some (Ctl.next l6) : Option (Ctl ((List ((Int × Int) × Bool))) (Unit))) = some (Ctl.next _) from hm)
     subst hq
     exact eX_next (cdn_at hn1 hsp1) (fun hst => ⟨ld1 ++ [p1], pa1 ++ pd1, l6, rfl, (perm_next hP1 hsp1), (foldR_snoc hF3 hs1), Fr.of hst (by kernel_rfl), F30, F31, F32, F33, hB, hZ⟩)
  ·rintro a' w22 ⟨lo1, l4, hP2, hF6, hF7, F34, hB, hZ⟩
   have hm := hA1 _ hP2
   rewrite [hF6] at hm
   refine Fr.goX hF7 (by kernel_rfl) ?_
   have hm := bindSome hm
   refine eX_then ?_
   refine cW_seq ?_
   refine cW_region ?_
   refine wS_pure 2 [(57, .map (some b10)), (56, .int .i64 (x1))] (by kernel_rfl) ?_
   obtain ⟨y4, hy4, hm⟩ := bindE hm
   refine wS_calls (d := 58) (f := 49) (vs := [.map (some b10)]) (by kernel_rfl) ent49 (c_impl_pointsOf hy4 F34) ?_
   rintro _ w23 ⟨A1, cap1, fp1, rfl, F35, G14, hc18⟩
   have D40 : Dj [b10] fp1 := Dj.of F34.low G14
   replace F34 := F34.chg hc18 Dj.nil
   replace hB := hB.inS hc18 inNil
   replace G14 := low_le hZ G14
   replace hZ := Nat.le_trans hZ hc18.size
   refine ⟨.slice A1 (y4).length cap1, rfl, ?_⟩
   refine wS_pure 2 [(7, .slice A1 (y4).length cap1), (6, .int .i64 (x1))] (by kernel_rfl) ?_
   refine wS_end (by rfl) ?_
   refine eX_then ?_
   refine cW_ret ?_
   have hq : (some ((x1, y4)) : Option ((Int) × (List (Int × Int)))) = some _ := hm
   replace hq := someE hq
   subst hq
   refine eX_ret (vs := [.int .i64 (x1), .slice A1 (y4).length cap1]) [.tmp 6, .tmp 7] (by rfl) ⟨by (show lkE _ _ _ = _); kernel_rfl, ⟨by (show lkE _ _ _ = _); kernel_rfl, trivial⟩⟩ ?_
   exact ⟨A1, cap1, fp1, rfl, F35, G14, hB⟩

set_option maxRecDepth 100000 in
/-- impl.FewestBlocks -/
theorem c_impl_FewestBlocks {w0 : World} {l0_0 : List (List (Int))} {A0_0 : Option Addr} {cap0_0 : Nat} {fp0_0 : List Nat} {p1_0 : Int} {p1_1 : Int} {p2_0 : Int} {p2_1 : Int} {r : (List (Int × Int)) × (Bool)} (hm : m_impl_FewestBlocks l0_0 p1_0 p1_1 p2_0 p2_1 = some r) (F0_0 : SlR 1 encI w0 fp0_0 A0_0 l0_0) :
  Calls Try.prog 9 #[.agg #[.slice A0_0 (l0_0).length cap0_0], .agg #[.int .i64 (p1_0), .int .i64 (p1_1)], .agg #[.int .i64 (p2_0), .int .i64 (p2_1)]] w0 fun e w' => ∃ A100 cap100 fp100, e = .returned (.tuple #[.slice A100 (r.1).length cap100, .bool (r.2)]) ∧ Ow 2 encII 29 w' fp100 A100 cap100 r.1 ∧ (∀ x ∈ fp100, w0.heap.size ≤ x) ∧ Chg [] w0 w' := by
 have L0_0 := F0_0.low
 have hB : Chg [] w0 w0 := Chg.refl _ _
 have hZ := Nat.le_refl w0.heap.size
 unfold m_impl_FewestBlocks at hm
 refine enterE (N := 23) Try.func9 (by rfl) Try.ntmps9 (by simp) [(0, .agg #[.slice A0_0 (l0_0).length cap0_0]), (1, .agg #[.int .i64 (p1_0), .int .i64 (p1_1)]), (2, .agg #[.int .i64 (p2_0), .int .i64 (p2_1)])] (by rfl) (by kernel_rfl) (fun a => ?_)
 refine cW_seq ?_
 refine cW_region ?_
 refine wS_box (d := 3) (T := 26) (x := .agg #[.slice A0_0 (l0_0).length cap0_0]) (by kernel_rfl) ?_
 intro b1 w1 G1 F1 hc1
 replace F1 : Cl w1 b1 26 [.slice A0_0 (l0_0).length cap0_0] := F1
 replace F0_0 := F0_0.chg hc1 Dj.nil
 replace hB := hB.inS hc1 inNil
 replace G1 := Nat.le_trans hZ G1
 replace hZ := Nat.le_trans hZ hc1.size
 refine wS_box (d := 4) (T := 29) (x := .agg #[.int .i64 (p1_0), .int .i64 (p1_1)]) (by kernel_rfl) ?_
 intro b2 w2 G2 F2 hc2
 replace F2 : Cl w2 b2 29 [.int .i64 (p1_0), .int .i64 (p1_1)] := F2
 have D1 : Dj [b1] [b2] := Dj.of (lt1 F1.lt) (low1 G2)
 replace F0_0 := F0_0.chg hc2 Dj.nil
 replace F1 := F1.chg hc2 notNil
 replace hB := hB.inS hc2 inNil
 replace G2 := Nat.le_trans hZ G2
 replace hZ := Nat.le_trans hZ hc2.size
 refine wS_box (d := 5) (T := 29) (x := .agg #[.int .i64 (p2_0), .int .i64 (p2_1)]) (by kernel_rfl) ?_
 intro b3 w3 G3 F3 hc3
 replace F3 : Cl w3 b3 29 [.int .i64 (p2_0), .int .i64 (p2_1)] := F3
 have D2 : Dj [b1] [b3] := Dj.of (lt1 F1.lt) (low1 G3)
 have D3 : Dj [b2] [b3] := Dj.of (lt1 F2.lt) (low1 G3)
 replace F0_0 := F0_0.chg hc3 Dj.nil
 replace F1 := F1.chg hc3 notNil
 replace F2 := F2.chg hc3 notNil
 replace hB := hB.inS hc3 inNil
 replace G3 := Nat.le_trans hZ G3
 replace hZ := Nat.le_trans hZ hc3.size
 refine wS_pure 2 [(7, .bool (false)), (6, .slice none 0 0)] (by kernel_rfl) ?_
 refine wS_end (by rfl) ?_
 refine eX_then ?_
 refine cW_seq ?_
 refine cW_seq ?_
 refine cW_region ?_
 refine wS_loadA (d := 10) (T := 26) (ad := ⟨b1, 0, none⟩) (vs := [.slice A0_0 (l0_0).length cap0_0]) (by kernel_rfl) vt26 (fun i u hu => box_cells F1 0 hu (by rfl)) ?_
 refine wS_loadA (d := 11) (T := 29) (ad := ⟨b2, 0, none⟩) (vs := [.int .i64 (p1_0), .int .i64 (p1_1)]) (by kernel_rfl) vt29 (fun i u hu => box_cells F2 0 hu (by rfl)) ?_
 refine wS_loadA (d := 12) (T := 29) (ad := ⟨b3, 0, none⟩) (vs := [.int .i64 (p2_0), .int .i64 (p2_1)]) (by kernel_rfl) vt29 (fun i u hu => box_cells F3 0 hu (by rfl)) ?_
 obtain ⟨y1, hy1, hm⟩ := bindE hm
 refine wS_calls (d := 13) (f := 28) (vs := [.agg #[.slice A0_0 (l0_0).length cap0_0], .agg #[.int .i64 (p1_0), .int .i64 (p1_1)], .agg #[.int .i64 (p2_0), .int .i64 (p2_1)]]) (by kernel_rfl) ent28 (c_impl_blockOk hy1 F0_0) ?_
 rintro _ w4 ⟨rfl, hc4⟩
 replace F0_0 := F0_0.chg hc4 Dj.nil
 replace F1 := F1.chg hc4 notNil
 replace F2 := F2.chg hc4 notNil
 replace F3 := F3.chg hc4 notNil
 replace hB := hB.inS hc4 inNil
 replace hZ := Nat.le_trans hZ hc4.size
 refine ⟨.bool (y1), rfl, ?_⟩
 refine wS_pure 1 [(14, .bool (!y1))] (by kernel_rfl) ?_
 refine wS_end (by rfl) ?_
 refine eX_then ?_
 refine cW_cond (t := !y1) (by kernel_rfl) (fun hb1 => ?_) (fun hb1 => ?_)
 ·have hm := condT hb1 hm
  refine cW_seq ?_
  refine cW_region ?_
  refine wS_pure 2 [(7, .bool (false)), (6, .slice none 0 0)] (by kernel_rfl) ?_
  refine wS_end (by rfl) ?_
  refine eX_then ?_
  refine cW_ret ?_
  refine eX_then_ret ?_
  have hq : (some (([], false)) : Option ((List (Int × Int)) × (Bool))) = some _ := hm
  replace hq := someE hq
  subst hq
  refine eX_ret (vs := [.slice none 0 0, .bool (false)]) [.tmp 6, .tmp 7] (by rfl) ⟨by (show lkE _ _ _ = _); kernel_rfl, ⟨by (show lkE _ _ _ = _); kernel_rfl, trivial⟩⟩ ?_
  exact ⟨none, 0, [], rfl, Ow.nil _, lowNil, hB⟩
 ·have hm := condF hb1 hm
  refine cW_skip ?_
  refine eX_then ?_
  refine cW_seq ?_
  refine cW_region ?_
  refine wS_loadA (d := 16) (T := 26) (ad := ⟨b1, 0, none⟩) (vs := [.slice A0_0 (l0_0).length cap0_0]) (by kernel_rfl) vt26 (fun i u hu => box_cells F1 0 hu (by rfl)) ?_
  refine wS_loadA (d := 17) (T := 29) (ad := ⟨b2, 0, none⟩) (vs := [.int .i64 (p1_0), .int .i64 (p1_1)]) (by kernel_rfl) vt29 (fun i u hu => box_cells F2 0 hu (by rfl)) ?_
  refine wS_loadA (d := 18) (T := 29) (ad := ⟨b3, 0, none⟩) (vs := [.int .i64 (p2_0), .int .i64 (p2_1)]) (by kernel_rfl) vt29 (fun i u hu => box_cells F3 0 hu (by rfl)) ?_
  obtain ⟨y2, hy2, hm⟩ := bindE hm
  refine wS_calls (d := 19) (f := 29) (vs := [.agg #[.slice A0_0 (l0_0).length cap0_0], .agg #[.int .i64 (p1_0), .int .i64 (p1_1)], .agg #[.int .i64 (p2_0), .int .i64 (p2_1)]]) (by kernel_rfl) ent29 (c_impl_apart hy2 F0_0) ?_
  rintro _ w5 ⟨A1, cap1, fp1, rfl, F4, G4, hc5⟩
  have D4 : Dj [b1] fp1 := Dj.of (lt1 F1.lt) G4
  have D5 : Dj [b2] fp1 := Dj.of (lt1 F2.lt) G4
  have D6 : Dj [b3] fp1 := Dj.of (lt1 F3.lt) G4
  replace F0_0 := F0_0.chg hc5 Dj.nil
  replace F1 := F1.chg hc5 notNil
  replace F2 := F2.chg hc5 notNil
  replace F3 := F3.chg hc5 notNil
  replace hB := hB.inS hc5 inNil
  replace G4 := low_le hZ G4
  replace hZ := Nat.le_trans hZ hc5.size
  refine ⟨.tuple #[.int .i64 (y2.1), .slice A1 (y2.2).length cap1], rfl, ?_⟩
  refine wS_pure 5 [(9, .slice A1 (y2.2).length cap1), (8, .int .i64 (y2.1)), (21, .slice A1 (y2.2).length cap1), (20, .int .i64 (y2.1)), (15, .tuple #[.int .i64 (y2.1), .slice A1 (y2.2).length cap1])] (by kernel_rfl) ?_
  refine wS_end (by rfl) ?_
  refine eX_then ?_
  refine cW_seq ?_
  refine cW_region ?_
  refine wS_pure 3 [(7, .bool (true)), (6, .slice A1 (y2.2).length cap1), (22, .slice A1 (y2.2).length cap1)] (by kernel_rfl) ?_
  refine wS_end (by rfl) ?_
  refine eX_then ?_
  refine cW_ret ?_
  have hq : (some ((y2.2, true)) : Option ((List (Int × Int)) × (Bool))) = some _ := hm
  replace hq := someE hq
  subst hq
  refine eX_ret (vs := [.slice A1 (y2.2).length cap1, .bool (true)]) [.tmp 6, .tmp 7] (by rfl) ⟨by (show lkE _ _ _ = _); kernel_rfl, ⟨by (show lkE _ _ _ = _); kernel_rfl, trivial⟩⟩ ?_
  exact ⟨A1, cap1, fp1, rfl, F4, G4, hB⟩

set_option maxRecDepth 100000 in
/-- impl.MostApart -/
theorem c_impl_MostApart {w0 : World} {l0_0 : List (List (Int))} {A0_0 : Option Addr} {cap0_0 : Nat} {fp0_0 : List Nat} {p1_0 : Int} {p1_1 : Int} {p2_0 : Int} {p2_1 : Int} {r : (Int) × (Bool)} (hm : m_impl_MostApart l0_0 p1_0 p1_1 p2_0 p2_1 = some r) (F0_0 : SlR 1 encI w0 fp0_0 A0_0 l0_0) :
  Calls Try.prog 10 #[.agg #[.slice A0_0 (l0_0).length cap0_0], .agg #[.int .i64 (p1_0), .int .i64 (p1_1)], .agg #[.int .i64 (p2_0), .int .i64 (p2_1)]] w0 fun e w' => e = .returned (.tuple #[.int .i64 (r.1), .bool (r.2)]) ∧ Chg [] w0 w' := by
 have L0_0 := F0_0.low
 have hB : Chg [] w0 w0 := Chg.refl _ _
 have hZ := Nat.le_refl w0.heap.size
 unfold m_impl_MostApart at hm
 refine enterE (N := 23) Try.func10 (by rfl) Try.ntmps10 (by simp) [(0, .agg #[.slice A0_0 (l0_0).length cap0_0]), (1, .agg #[.int .i64 (p1_0), .int .i64 (p1_1)]), (2, .agg #[.int .i64 (p2_0), .int .i64 (p2_1)])] (by rfl) (by kernel_rfl) (fun a => ?_)
 refine cW_seq ?_
 refine cW_region ?_
 refine wS_box (d := 3) (T := 26) (x := .agg #[.slice A0_0 (l0_0).length cap0_0]) (by kernel_rfl) ?_
 intro b1 w1 G1 F1 hc1
 replace F1 : Cl w1 b1 26 [.slice A0_0 (l0_0).length cap0_0] := F1
 replace F0_0 := F0_0.chg hc1 Dj.nil
 replace hB := hB.inS hc1 inNil
 replace G1 := Nat.le_trans hZ G1
 replace hZ := Nat.le_trans hZ hc1.size
 refine wS_box (d := 4) (T := 29) (x := .agg #[.int .i64 (p1_0), .int .i64 (p1_1)]) (by kernel_rfl) ?_
 intro b2 w2 G2 F2 hc2
 replace F2 : Cl w2 b2 29 [.int .i64 (p1_0), .int .i64 (p1_1)] := F2
 have D1 : Dj [b1] [b2] := Dj.of (lt1 F1.lt) (low1 G2)
 replace F0_0 := F0_0.chg hc2 Dj.nil
 replace F1 := F1.chg hc2 notNil
 replace hB := hB.inS hc2 inNil
 replace G2 := Nat.le_trans hZ G2
 replace hZ := Nat.le_trans hZ hc2.size
 refine wS_box (d := 5) (T := 29) (x := .agg #[.int .i64 (p2_0), .int .i64 (p2_1)]) (by kernel_rfl) ?_
 intro b3 w3 G3 F3 hc3
 replace F3 : Cl w3 b3 29 [.int .i64 (p2_0), .int .i64 (p2_1)] := F3
 have D2 : Dj [b1] [b3] := Dj.of (lt1 F1.lt) (low1 G3)
 have D3 : Dj [b2] [b3] := Dj.of (lt1 F2.lt) (low1 G3)
 replace F0_0 := F0_0.chg hc3 Dj.nil
 replace F1 := F1.chg hc3 notNil
 replace F2 := F2.chg hc3 notNil
 replace hB := hB.inS hc3 inNil
 replace G3 := Nat.le_trans hZ G3
 replace hZ := Nat.le_trans hZ hc3.size
 refine wS_pure 2 [(7, .bool (false)), (6, .int .i64 (0))] (by kernel_rfl) ?_
 refine wS_end (by rfl) ?_
 refine eX_then ?_
 refine cW_seq ?_
 refine cW_seq ?_
 refine cW_region ?_
 refine wS_loadA (d := 10) (T := 26) (ad := ⟨b1, 0, none⟩) (vs := [.slice A0_0 (l0_0).length cap0_0]) (by kernel_rfl) vt26 (fun i u hu => box_cells F1 0 hu (by rfl)) ?_
 refine wS_loadA (d := 11) (T := 29) (ad := ⟨b2, 0, none⟩) (vs := [.int .i64 (p1_0), .int .i64 (p1_1)]) (by kernel_rfl) vt29 (fun i u hu => box_cells F2 0 hu (by rfl)) ?_
 refine wS_loadA (d := 12) (T := 29) (ad := ⟨b3, 0, none⟩) (vs := [.int .i64 (p2_0), .int .i64 (p2_1)]) (by kernel_rfl) vt29 (fun i u hu => box_cells F3 0 hu (by rfl)) ?_
 obtain ⟨y1, hy1, hm⟩ := bindE hm
 refine wS_calls (d := 13) (f := 28) (vs := [.agg #[.slice A0_0 (l0_0).length cap0_0], .agg #[.int .i64 (p1_0), .int .i64 (p1_1)], .agg #[.int .i64 (p2_0), .int .i64 (p2_1)]]) (by kernel_rfl) ent28 (c_impl_blockOk hy1 F0_0) ?_
 rintro _ w4 ⟨rfl, hc4⟩
 replace F0_0 := F0_0.chg hc4 Dj.nil
 replace F1 := F1.chg hc4 notNil
 replace F2 := F2.chg hc4 notNil
 replace F3 := F3.chg hc4 notNil
 replace hB := hB.inS hc4 inNil
 replace hZ := Nat.le_trans hZ hc4.size
 refine ⟨.bool (y1), rfl, ?_⟩
 refine wS_pure 1 [(14, .bool (!y1))] (by kernel_rfl) ?_
 refine wS_end (by rfl) ?_
 refine eX_then ?_
 refine cW_cond (t := !y1) (by kernel_rfl) (fun hb1 => ?_) (fun hb1 => ?_)
 ·have hm := condT hb1 hm
  refine cW_seq ?_
  refine cW_region ?_
  refine wS_pure 2 [(7, .bool (false)), (6, .int .i64 (0))] (by kernel_rfl) ?_
  refine wS_end (by rfl) ?_
  refine eX_then ?_
  refine cW_ret ?_
  refine eX_then_ret ?_
  have hq : (some ((0, false)) : Option ((Int) × (Bool))) = some _ := hm
  replace hq := someE hq
  subst hq
  refine eX_ret (vs := [.int .i64 (0), .bool (false)]) [.tmp 6, .tmp 7] (by rfl) ⟨by (show lkE _ _ _ = _); kernel_rfl, ⟨by (show lkE _ _ _ = _); kernel_rfl, trivial⟩⟩ ?_
  exact ⟨rfl, hB⟩
 ·have hm := condF hb1 hm
  refine cW_skip ?_
  refine eX_then ?_
  refine cW_seq ?_
  refine cW_region ?_
  refine wS_loadA (d := 16) (T := 26) (ad := ⟨b1, 0, none⟩) (vs := [.slice A0_0 (l0_0).length cap0_0]) (by kernel_rfl) vt26 (fun i u hu => box_cells F1 0 hu (by rfl)) ?_
  refine wS_loadA (d := 17) (T := 29) (ad := ⟨b2, 0, none⟩) (vs := [.int .i64 (p1_0), .int .i64 (p1_1)]) (by kernel_rfl) vt29 (fun i u hu => box_cells F2 0 hu (by rfl)) ?_
  refine wS_loadA (d := 18) (T := 29) (ad := ⟨b3, 0, none⟩) (vs := [.int .i64 (p2_0), .int .i64 (p2_1)]) (by kernel_rfl) vt29 (fun i u hu => box_cells F3 0 hu (by rfl)) ?_
  obtain ⟨y2, hy2, hm⟩ := bindE hm
  refine wS_calls (d := 19) (f := 29) (vs := [.agg #[.slice A0_0 (l0_0).length cap0_0], .agg #[.int .i64 (p1_0), .int .i64 (p1_1)], .agg #[.int .i64 (p2_0), .int .i64 (p2_1)]]) (by kernel_rfl) ent29 (c_impl_apart hy2 F0_0) ?_
  rintro _ w5 ⟨A1, cap1, fp1, rfl, F4, G4, hc5⟩
  have D4 : Dj [b1] fp1 := Dj.of (lt1 F1.lt) G4
  have D5 : Dj [b2] fp1 := Dj.of (lt1 F2.lt) G4
  have D6 : Dj [b3] fp1 := Dj.of (lt1 F3.lt) G4
  replace F0_0 := F0_0.chg hc5 Dj.nil
  replace F1 := F1.chg hc5 notNil
  replace F2 := F2.chg hc5 notNil
  replace F3 := F3.chg hc5 notNil
  replace hB := hB.inS hc5 inNil
  replace G4 := low_le hZ G4
  replace hZ := Nat.le_trans hZ hc5.size
  refine ⟨.tuple #[.int .i64 (y2.1), .slice A1 (y2.2).length cap1], rfl, ?_⟩
  refine wS_pure 5 [(9, .slice A1 (y2.2).length cap1), (8, .int .i64 (y2.1)), (21, .slice A1 (y2.2).length cap1), (20, .int .i64 (y2.1)), (15, .tuple #[.int .i64 (y2.1), .slice A1 (y2.2).length cap1])] (by kernel_rfl) ?_
  refine wS_end (by rfl) ?_
  refine eX_then ?_
  refine cW_seq ?_
  refine cW_region ?_
  refine wS_pure 3 [(7, .bool (true)), (6, .int .i64 (y2.1)), (22, .int .i64 (y2.1))] (by kernel_rfl) ?_
  refine wS_end (by rfl) ?_
  refine eX_then ?_
  refine cW_ret ?_
  have hq : (some ((y2.1, true)) : Option ((Int) × (Bool))) = some _ := hm
  replace hq := someE hq
  subst hq
  refine eX_ret (vs := [.int .i64 (y2.1), .bool (true)]) [.tmp 6, .tmp 7] (by rfl) ⟨by (show lkE _ _ _ = _); kernel_rfl, ⟨by (show lkE _ _ _ = _); kernel_rfl, trivial⟩⟩ ?_
  exact ⟨rfl, hB⟩

set_option maxRecDepth 100000 in
/-- impl.IsPoint -/
theorem c_impl_IsPoint {w0 : World} {p0_0 : Int} {p0_1 : Int} {r : (Bool)} (hm : m_impl_IsPoint p0_0 p0_1 = some r)  :
  Calls Try.prog 30 #[.agg #[.int .i64 (p0_0), .int .i64 (p0_1)]] w0 fun e w' => e = .returned (.bool (r)) ∧ Chg [] w0 w' := by
 have hB : Chg [] w0 w0 := Chg.refl _ _
 have hZ := Nat.le_refl w0.heap.size
 unfold m_impl_IsPoint at hm
 refine enterE (N := 11) Try.func30 (by rfl) Try.ntmps30 (by simp) [(0, .agg #[.int .i64 (p0_0), .int .i64 (p0_1)])] (by rfl) (by kernel_rfl) (fun a => ?_)
 refine cW_seq ?_
 refine cW_region ?_
 refine wS_box (d := 1) (T := 29) (x := .agg #[.int .i64 (p0_0), .int .i64 (p0_1)]) (by kernel_rfl) ?_
 intro b1 w1 G1 F1 hc1
 replace F1 : Cl w1 b1 29 [.int .i64 (p0_0), .int .i64 (p0_1)] := F1
 replace hB := hB.inS hc1 inNil
 replace G1 := Nat.le_trans hZ G1
 replace hZ := Nat.le_trans hZ hc1.size
 refine wS_pure 1 [(2, .bool (false))] (by kernel_rfl) ?_
 refine wS_end (by rfl) ?_
 refine eX_then ?_
 refine cW_seq ?_
 refine cW_region ?_
 refine wS_pure 1 [(3, .pointer (some ⟨b1, 0, none⟩))] (by kernel_rfl) ?_
 refine wS_load1 (d := 4) (T := 2) (ad := ⟨b1, 0, none⟩) (v := .int .i64 (p0_0)) (by kernel_rfl) vt2 ((F1).cell 0) ?_
 obtain ⟨y1, hy1, hm⟩ := bindE hm
 refine wS_calls (d := 5) (f := 50) (vs := [.int .i64 (p0_0), .int .i64 (0), .int .i64 (99)]) (by kernel_rfl) ent50 (c_impl_in hy1) ?_
 rintro _ w2 ⟨rfl, hc2⟩
 replace F1 := F1.chg hc2 notNil
 replace hB := hB.inS hc2 inNil
 replace hZ := Nat.le_trans hZ hc2.size
 refine ⟨.bool (y1), rfl, ?_⟩
 refine wS_pure 1 [(6, .bool (y1))] (by kernel_rfl) ?_
 refine wS_bool y1 (fun hb1 => ?_) (fun hb1 => ?_)
 ·have hm := condT hb1 hm
  rewrite [hb1]
  refine wS_pure 1 [(7, .pointer (some ⟨b1, 1, none⟩))] (by kernel_rfl) ?_
  refine wS_load1 (d := 8) (T := 2) (ad := ⟨b1, 1, none⟩) (v := .int .i64 (p0_1)) (by kernel_rfl) vt2 ((F1).cell 1) ?_
  obtain ⟨y2, hy2, hm⟩ := bindE hm
  refine wS_calls (d := 9) (f := 50) (vs := [.int .i64 (p0_1), .int .i64 (0), .int .i64 (99)]) (by kernel_rfl) ent50 (c_impl_in hy2) ?_
  rintro _ w3 ⟨rfl, hc3⟩
  replace F1 := F1.chg hc3 notNil
  replace hB := hB.inS hc3 inNil
  replace hZ := Nat.le_trans hZ hc3.size
  refine ⟨.bool (y2), rfl, ?_⟩
  refine wS_pure 2 [(2, .bool (y2)), (10, .bool (y2))] (by kernel_rfl) ?_
  refine wS_end (by rfl) ?_
  refine eX_then ?_
  refine cW_ret ?_
  have hq : (some y2 : Option ((Bool))) = some _ := hm
  replace hq := someE hq
  subst hq
  refine eX_ret (vs := [.bool (y2)]) [.tmp 2] (by rfl) ⟨by (show lkE _ _ _ = _); kernel_rfl, trivial⟩ ?_
  exact ⟨rfl, hB⟩
 ·have hm := condF hb1 hm
  rewrite [hb1]
  refine wS_pure 5 [(2, .bool (false)), (10, .bool (false)), (9, undef), (8, undef), (7, undef)] (by kernel_rfl) ?_
  refine wS_end (by rfl) ?_
  refine eX_then ?_
  refine cW_ret ?_
  have hq : (some false : Option ((Bool))) = some _ := hm
  replace hq := someE hq
  subst hq
  refine eX_ret (vs := [.bool (false)]) [.tmp 2] (by rfl) ⟨by (show lkE _ _ _ = _); kernel_rfl, trivial⟩ ?_
  exact ⟨rfl, hB⟩

set_option maxRecDepth 100000 in
/-- impl.DistanceOf -/
theorem c_impl_DistanceOf {w0 : World} {p0_0 : Int} {p0_1 : Int} {p1_0 : Int} {p1_1 : Int} {r : (Int) × (Bool)} (hm : m_impl_DistanceOf p0_0 p0_1 p1_0 p1_1 = some r)  :
  Calls Try.prog 11 #[.agg #[.int .i64 (p0_0), .int .i64 (p0_1)], .agg #[.int .i64 (p1_0), .int .i64 (p1_1)]] w0 fun e w' => e = .returned (.tuple #[.int .i64 (r.1), .bool (r.2)]) ∧ Chg [] w0 w' := by
 have hB : Chg [] w0 w0 := Chg.refl _ _
 have hZ := Nat.le_refl w0.heap.size
 unfold m_impl_DistanceOf at hm
 refine enterE (N := 17) Try.func11 (by rfl) Try.ntmps11 (by simp) [(0, .agg #[.int .i64 (p0_0), .int .i64 (p0_1)]), (1, .agg #[.int .i64 (p1_0), .int .i64 (p1_1)])] (by rfl) (by kernel_rfl) (fun a => ?_)
 refine cW_seq ?_
 refine cW_region ?_
 refine wS_box (d := 2) (T := 29) (x := .agg #[.int .i64 (p0_0), .int .i64 (p0_1)]) (by kernel_rfl) ?_
 intro b1 w1 G1 F1 hc1
 replace F1 : Cl w1 b1 29 [.int .i64 (p0_0), .int .i64 (p0_1)] := F1
 replace hB := hB.inS hc1 inNil
 replace G1 := Nat.le_trans hZ G1
 replace hZ := Nat.le_trans hZ hc1.size
 refine wS_box (d := 3) (T := 29) (x := .agg #[.int .i64 (p1_0), .int .i64 (p1_1)]) (by kernel_rfl) ?_
 intro b2 w2 G2 F2 hc2
 replace F2 : Cl w2 b2 29 [.int .i64 (p1_0), .int .i64 (p1_1)] := F2
 have D1 : Dj [b1] [b2] := Dj.of (lt1 F1.lt) (low1 G2)
 replace F1 := F1.chg hc2 notNil
 replace hB := hB.inS hc2 inNil
 replace G2 := Nat.le_trans hZ G2
 replace hZ := Nat.le_trans hZ hc2.size
 refine wS_pure 2 [(5, .bool (false)), (4, .int .i64 (0))] (by kernel_rfl) ?_
 refine wS_end (by rfl) ?_
 refine eX_then ?_
 refine cW_seq ?_
 refine cW_seq ?_
 refine cW_region ?_
 refine wS_loadA (d := 6) (T := 29) (ad := ⟨b1, 0, none⟩) (vs := [.int .i64 (p0_0), .int .i64 (p0_1)]) (by kernel_rfl) vt29 (fun i u hu => box_cells F1 0 hu (by rfl)) ?_
 obtain ⟨y1, hy1, hm⟩ := bindE hm
 refine wS_calls (d := 7) (f := 30) (vs := [.agg #[.int .i64 (p0_0), .int .i64 (p0_1)]]) (by kernel_rfl) ent30 (c_impl_IsPoint hy1) ?_
 rintro _ w3 ⟨rfl, hc3⟩
 replace F1 := F1.chg hc3 notNil
 replace F2 := F2.chg hc3 notNil
 replace hB := hB.inS hc3 inNil
 replace hZ := Nat.le_trans hZ hc3.size
 refine ⟨.bool (y1), rfl, ?_⟩
 refine wS_pure 2 [(9, .bool (!y1)), (8, .bool (!y1))] (by kernel_rfl) ?_
 refine wS_bool (!y1) (fun hb1 => ?_) (fun hb1 => ?_)
 ·have hm := condT hb1 hm
  rewrite [hb1]
  refine wS_pure 4 [(13, .bool (true)), (12, undef), (11, undef), (10, undef)] (by kernel_rfl) ?_
  refine wS_end (by rfl) ?_
  refine eX_then ?_
  refine cW_cond_t (by kernel_rfl) ?_
  refine cW_seq ?_
  refine cW_region ?_
  refine wS_pure 2 [(5, .bool (false)), (4, .int .i64 (0))] (by kernel_rfl) ?_
  refine wS_end (by rfl) ?_
  refine eX_then ?_
  refine cW_ret ?_
  refine eX_then_ret ?_
  have hq : (some ((0, false)) : Option ((Int) × (Bool))) = some _ := hm
  replace hq := someE hq
  subst hq
  refine eX_ret (vs := [.int .i64 (0), .bool (false)]) [.tmp 4, .tmp 5] (by rfl) ⟨by (show lkE _ _ _ = _); kernel_rfl, ⟨by (show lkE _ _ _ = _); kernel_rfl, trivial⟩⟩ ?_
  exact ⟨rfl, hB⟩
 ·have hm := condF hb1 hm
  rewrite [hb1]
  refine wS_loadA (d := 10) (T := 29) (ad := ⟨b2, 0, none⟩) (vs := [.int .i64 (p1_0), .int .i64 (p1_1)]) (by kernel_rfl) vt29 (fun i u hu => box_cells F2 0 hu (by rfl)) ?_
  obtain ⟨y2, hy2, hm⟩ := bindE hm
  refine wS_calls (d := 11) (f := 30) (vs := [.agg #[.int .i64 (p1_0), .int .i64 (p1_1)]]) (by kernel_rfl) ent30 (c_impl_IsPoint hy2) ?_
  rintro _ w4 ⟨rfl, hc4⟩
  replace F1 := F1.chg hc4 notNil
  replace F2 := F2.chg hc4 notNil
  replace hB := hB.inS hc4 inNil
  replace hZ := Nat.le_trans hZ hc4.size
  refine ⟨.bool (y2), rfl, ?_⟩
  refine wS_pure 2 [(13, .bool (!y2)), (12, .bool (!y2))] (by kernel_rfl) ?_
  refine wS_end (by rfl) ?_
  refine eX_then ?_
  refine cW_cond (t := !y2) (by kernel_rfl) (fun hb2 => ?_) (fun hb2 => ?_)
  ·have hm := condT hb2 hm
   refine cW_seq ?_
   refine cW_region ?_
   refine wS_pure 2 [(5, .bool (false)), (4, .int .i64 (0))] (by kernel_rfl) ?_
   refine wS_end (by rfl) ?_
   refine eX_then ?_
   refine cW_ret ?_
   refine eX_then_ret ?_
   have hq : (some ((0, false)) : Option ((Int) × (Bool))) = some _ := hm
   replace hq := someE hq
   subst hq
   refine eX_ret (vs := [.int .i64 (0), .bool (false)]) [.tmp 4, .tmp 5] (by rfl) ⟨by (show lkE _ _ _ = _); kernel_rfl, ⟨by (show lkE _ _ _ = _); kernel_rfl, trivial⟩⟩ ?_
   exact ⟨rfl, hB⟩
  ·have hm := condF hb2 hm
   refine cW_skip ?_
   refine eX_then ?_
   refine cW_seq ?_
   refine cW_region ?_
   refine wS_loadA (d := 14) (T := 29) (ad := ⟨b1, 0, none⟩) (vs := [.int .i64 (p0_0), .int .i64 (p0_1)]) (by kernel_rfl) vt29 (fun i u hu => box_cells F1 0 hu (by rfl)) ?_
   refine wS_loadA (d := 15) (T := 29) (ad := ⟨b2, 0, none⟩) (vs := [.int .i64 (p1_0), .int .i64 (p1_1)]) (by kernel_rfl) vt29 (fun i u hu => box_cells F2 0 hu (by rfl)) ?_
   obtain ⟨y3, hy3, hm⟩ := bindE hm
   refine wS_calls (d := 16) (f := 31) (vs := [.agg #[.int .i64 (p0_0), .int .i64 (p0_1)], .agg #[.int .i64 (p1_0), .int .i64 (p1_1)]]) (by kernel_rfl) ent31 (c_impl_far hy3) ?_
   rintro _ w5 ⟨rfl, hc5⟩
   replace F1 := F1.chg hc5 notNil
   replace F2 := F2.chg hc5 notNil
   replace hB := hB.inS hc5 inNil
   replace hZ := Nat.le_trans hZ hc5.size
   refine ⟨.int .i64 (y3), rfl, ?_⟩
   refine wS_pure 2 [(5, .bool (true)), (4, .int .i64 (y3))] (by kernel_rfl) ?_
   refine wS_end (by rfl) ?_
   refine eX_then ?_
   refine cW_ret ?_
   have hq : (some ((y3, true)) : Option ((Int) × (Bool))) = some _ := hm
   replace hq := someE hq
   subst hq
   refine eX_ret (vs := [.int .i64 (y3), .bool (true)]) [.tmp 4, .tmp 5] (by rfl) ⟨by (show lkE _ _ _ = _); kernel_rfl, ⟨by (show lkE _ _ _ = _); kernel_rfl, trivial⟩⟩ ?_
   exact ⟨rfl, hB⟩

set_option maxRecDepth 100000 in
/-- impl.mazeOk -/
theorem c_impl_mazeOk {w0 : World} {l0_0 : List (List (Int))} {A0_0 : Option Addr} {cap0_0 : Nat} {fp0_0 : List Nat} {p1_0 : Int} {p1_1 : Int} {p2_0 : Int} {p2_1 : Int} {p3 : Int} {r : (Bool)} (hm : m_impl_mazeOk l0_0 p1_0 p1_1 p2_0 p2_1 p3 = some r) (F0_0 : SlR 1 encI w0 fp0_0 A0_0 l0_0) :
  Calls Try.prog 34 #[.agg #[.slice A0_0 (l0_0).length cap0_0], .agg #[.int .i64 (p1_0), .int .i64 (p1_1)], .agg #[.int .i64 (p2_0), .int .i64 (p2_1)], .int .i64 (p3)] w0 fun e w' => e = .returned (.bool (r)) ∧ Chg [] w0 w' := by
 have L0_0 := F0_0.low
 have hB : Chg [] w0 w0 := Chg.refl _ _
 have hZ := Nat.le_refl w0.heap.size
 unfold m_impl_mazeOk at hm
 refine enterE (N := 20) Try.func34 (by rfl) Try.ntmps34 (by simp) [(0, .agg #[.slice A0_0 (l0_0).length cap0_0]), (1, .agg #[.int .i64 (p1_0), .int .i64 (p1_1)]), (2, .agg #[.int .i64 (p2_0), .int .i64 (p2_1)]), (3, .int .i64 (p3))] (by rfl) (by kernel_rfl) (fun a => ?_)
 refine cW_seq ?_
 refine cW_region ?_
 refine wS_box (d := 4) (T := 26) (x := .agg #[.slice A0_0 (l0_0).length cap0_0]) (by kernel_rfl) ?_
 intro b1 w1 G1 F1 hc1
 replace F1 : Cl w1 b1 26 [.slice A0_0 (l0_0).length cap0_0] := F1
 replace F0_0 := F0_0.chg hc1 Dj.nil
 replace hB := hB.inS hc1 inNil
 replace G1 := Nat.le_trans hZ G1
 replace hZ := Nat.le_trans hZ hc1.size
 refine wS_box (d := 5) (T := 29) (x := .agg #[.int .i64 (p1_0), .int .i64 (p1_1)]) (by kernel_rfl) ?_
 intro b2 w2 G2 F2 hc2
 replace F2 : Cl w2 b2 29 [.int .i64 (p1_0), .int .i64 (p1_1)] := F2
 have D1 : Dj [b1] [b2] := Dj.of (lt1 F1.lt) (low1 G2)
 replace F0_0 := F0_0.chg hc2 Dj.nil
 replace F1 := F1.chg hc2 notNil
 replace hB := hB.inS hc2 inNil
 replace G2 := Nat.le_trans hZ G2
 replace hZ := Nat.le_trans hZ hc2.size
 refine wS_box (d := 6) (T := 29) (x := .agg #[.int .i64 (p2_0), .int .i64 (p2_1)]) (by kernel_rfl) ?_
 intro b3 w3 G3 F3 hc3
 replace F3 : Cl w3 b3 29 [.int .i64 (p2_0), .int .i64 (p2_1)] := F3
 have D2 : Dj [b1] [b3] := Dj.of (lt1 F1.lt) (low1 G3)
 have D3 : Dj [b2] [b3] := Dj.of (lt1 F2.lt) (low1 G3)
 replace F0_0 := F0_0.chg hc3 Dj.nil
 replace F1 := F1.chg hc3 notNil
 replace F2 := F2.chg hc3 notNil
 replace hB := hB.inS hc3 inNil
 replace G3 := Nat.le_trans hZ G3
 replace hZ := Nat.le_trans hZ hc3.size
 refine wS_pure 1 [(8, .bool (false))] (by kernel_rfl) ?_
 refine wS_end (by rfl) ?_
 refine eX_then ?_
 refine cW_seq ?_
 refine cW_region ?_
 refine wS_loadA (d := 9) (T := 26) (ad := ⟨b1, 0, none⟩) (vs := [.slice A0_0 (l0_0).length cap0_0]) (by kernel_rfl) vt26 (fun i u hu => box_cells F1 0 hu (by rfl)) ?_
 refine wS_loadA (d := 10) (T := 29) (ad := ⟨b2, 0, none⟩) (vs := [.int .i64 (p1_0), .int .i64 (p1_1)]) (by kernel_rfl) vt29 (fun i u hu => box_cells F2 0 hu (by rfl)) ?_
 obtain ⟨y1, hy1, hm⟩ := bindE hm
 refine wS_calls (d := 11) (f := 12) (vs := [.agg #[.slice A0_0 (l0_0).length cap0_0], .agg #[.int .i64 (p1_0), .int .i64 (p1_1)]]) (by kernel_rfl) ent12 (c_impl_IsOpen hy1 F0_0) ?_
 rintro _ w4 ⟨rfl, hc4⟩
 replace F0_0 := F0_0.chg hc4 Dj.nil
 replace F1 := F1.chg hc4 notNil
 replace F2 := F2.chg hc4 notNil
 replace F3 := F3.chg hc4 notNil
 replace hB := hB.inS hc4 inNil
 replace hZ := Nat.le_trans hZ hc4.size
 refine ⟨.bool (y1), rfl, ?_⟩
 refine wS_pure 1 [(12, .bool (y1))] (by kernel_rfl) ?_
 refine wS_bool y1 (fun hb1 => ?_) (fun hb1 => ?_)
 ·have hm := condT hb1 hm
  rewrite [hb1]
  refine wS_loadA (d := 13) (T := 29) (ad := ⟨b3, 0, none⟩) (vs := [.int .i64 (p2_0), .int .i64 (p2_1)]) (by kernel_rfl) vt29 (fun i u hu => box_cells F3 0 hu (by rfl)) ?_
  obtain ⟨y2, hy2, hm⟩ := bindE hm
  refine wS_calls (d := 14) (f := 33) (vs := [.pointer (some ⟨b1, 0, none⟩), .agg #[.int .i64 (p2_0), .int .i64 (p2_1)]]) (by kernel_rfl) ent33 (c_impl_Maze_open_bimplMaze hy2 F0_0 F1) ?_
  rintro _ w5 ⟨rfl, hc5⟩
  replace F0_0 := F0_0.chg hc5 Dj.nil
  replace F1 := F1.chg hc5 notNil
  replace F2 := F2.chg hc5 notNil
  replace F3 := F3.chg hc5 notNil
  replace hB := hB.inS hc5 inNil
  replace hZ := Nat.le_trans hZ hc5.size
  refine ⟨.bool (y2), rfl, ?_⟩
  refine wS_pure 2 [(16, .bool (y2)), (15, .bool (y2))] (by kernel_rfl) ?_
  refine wS_bool y2 (fun hb2 => ?_) (fun hb2 => ?_)
  ·have hm := condT hb2 hm
   rewrite [hb2]
   refine wS_pure 1 [(17, .int .i64 (p3))] (by kernel_rfl) ?_
   obtain ⟨y3, hy3, hm⟩ := bindE hm
   refine wS_calls (d := 18) (f := 50) (vs := [.int .i64 (p3), .int .i64 (0), .int .i64 (1000000000)]) (by kernel_rfl) ent50 (c_impl_in hy3) ?_
   rintro _ w6 ⟨rfl, hc6⟩
   replace F0_0 := F0_0.chg hc6 Dj.nil
   replace F1 := F1.chg hc6 notNil
   replace F2 := F2.chg hc6 notNil
   replace F3 := F3.chg hc6 notNil
   replace hB := hB.inS hc6 inNil
   replace hZ := Nat.le_trans hZ hc6.size
   refine ⟨.bool (y3), rfl, ?_⟩
   refine wS_pure 2 [(8, .bool (y3)), (19, .bool (y3))] (by kernel_rfl) ?_
   refine wS_end (by rfl) ?_
   refine eX_then ?_
   refine cW_ret ?_
   have hq : (some y3 : Option ((Bool))) = some _ := hm
   replace hq := someE hq
   subst hq
   refine eX_ret (vs := [.bool (y3)]) [.tmp 8] (by rfl) ⟨by (show lkE _ _ _ = _); kernel_rfl, trivial⟩ ?_
   exact ⟨rfl, hB⟩
  ·have hm := condF hb2 hm
   rewrite [hb2]
   refine wS_pure 4 [(8, .bool (false)), (19, .bool (false)), (18, undef), (17, undef)] (by kernel_rfl) ?_
   refine wS_end (by rfl) ?_
   refine eX_then ?_
   refine cW_ret ?_
   have hq : (some false : Option ((Bool))) = some _ := hm
   replace hq := someE hq
   subst hq
   refine eX_ret (vs := [.bool (false)]) [.tmp 8] (by rfl) ⟨by (show lkE _ _ _ = _); kernel_rfl, trivial⟩ ?_
   exact ⟨rfl, hB⟩
 ·have hm := condF hb1 hm
  rewrite [hb1]
  refine wS_pure 8 [(8, .bool (false)), (19, .bool (false)), (18, undef), (17, undef), (16, .bool (false)), (15, .bool (false)), (14, undef), (13, undef)] (by kernel_rfl) ?_
  refine wS_end (by rfl) ?_
  refine eX_then ?_
  refine cW_ret ?_
  have hq : (some false : Option ((Bool))) = some _ := hm
  replace hq := someE hq
  subst hq
  refine eX_ret (vs := [.bool (false)]) [.tmp 8] (by rfl) ⟨by (show lkE _ _ _ = _); kernel_rfl, trivial⟩ ?_
  exact ⟨rfl, hB⟩

set_option maxRecDepth 100000 in
/-- impl.Maze).after -/
theorem c_impl_Maze_after_bimplMaze {w0 : World} {l0_0 : List (List (Int))} {A0_0 : Option Addr} {cap0_0 : Nat} {fp0_0 : List Nat} {b0 : Nat} {p1_0 : Int} {p1_1 : Int} {p1_2 : Int} {p2 : Int} {p3 : Int} {r : (Int × Int × Int) × (Int) × (Bool)} (hm : m_impl_Maze_after_bimplMaze l0_0 p1_0 p1_1 p1_2 p2 p3 = some r) (F0_0 : SlR 1 encI w0 fp0_0 A0_0 l0_0) (F0 : Cl w0 b0 26 [.slice A0_0 (l0_0).length cap0_0]) :
  Calls Try.prog 36 #[.pointer (some ⟨b0, 0, none⟩), .agg #[.int .i64 (p1_0), .int .i64 (p1_1), .int .i64 (p1_2)], .int .i64 (p2), .int .i64 (p3)] w0 fun e w' => e = .returned (.tuple #[.agg #[.int .i64 (r.1.1), .int .i64 (r.1.2.1), .int .i64 (r.1.2.2)], .int .i64 (r.2.1), .bool (r.2.2)]) ∧ Chg [] w0 w' := by
 have L0_0 := F0_0.low
 have L0 := lt1 F0.lt
 have hB : Chg [] w0 w0 := Chg.refl _ _
 have hZ := Nat.le_refl w0.heap.size
 unfold m_impl_Maze_after_bimplMaze at hm
 refine enterE (N := 41) Try.func36 (by rfl) Try.ntmps36 (by simp) [(0, .pointer (some ⟨b0, 0, none⟩)), (1, .agg #[.int .i64 (p1_0), .int .i64 (p1_1), .int .i64 (p1_2)]), (2, .int .i64 (p2)), (3, .int .i64 (p3))] (by rfl) (by kernel_rfl) (fun a => ?_)
 refine cW_seq ?_
 refine cW_region ?_
 refine wS_box (d := 5) (T := 67) (x := .agg #[.int .i64 (p1_0), .int .i64 (p1_1), .int .i64 (p1_2)]) (by kernel_rfl) ?_
 intro b1 w1 G1 F1 hc1
 replace F1 : Cl w1 b1 67 [.int .i64 (p1_0), .int .i64 (p1_1), .int .i64 (p1_2)] := F1
 replace F0_0 := F0_0.chg hc1 Dj.nil
 replace F0 := F0.chg hc1 notNil
 replace hB := hB.inS hc1 inNil
 replace G1 := Nat.le_trans hZ G1
 replace hZ := Nat.le_trans hZ hc1.size
 refine wS_alloc (d := 8) (T := 67) (z := .agg #[.int .i64 (0), .int .i64 (0), .int .i64 (0)]) (by kernel_rfl) (by kernel_rfl) ?_
 intro b2 w2 G2 F2 hc2
 replace F2 : Cl w2 b2 67 [.int .i64 (0), .int .i64 (0), .int .i64 (0)] := F2
 have D1 : Dj [b1] [b2] := Dj.of (lt1 F1.lt) (low1 G2)
 replace F0_0 := F0_0.chg hc2 Dj.nil
 replace F0 := F0.chg hc2 notNil
 replace F1 := F1.chg hc2 notNil
 replace hB := hB.inS hc2 inNil
 replace G2 := Nat.le_trans hZ G2
 replace hZ := Nat.le_trans hZ hc2.size
 refine wS_pure 2 [(10, .bool (false)), (9, .int .i64 (0))] (by kernel_rfl) ?_
 refine wS_end (by rfl) ?_
 refine eX_then ?_
 refine cW_seq ?_
 refine cW_region ?_
 refine wS_pure 1 [(13, .pointer (some ⟨b1, 0, none⟩))] (by kernel_rfl) ?_
 refine wS_loadA (d := 14) (T := 29) (ad := ⟨b1, 0, none⟩) (vs := [.int .i64 (p1_0), .int .i64 (p1_1)]) (by kernel_rfl) vt29 (fun i u hu => box_cells F1 0 hu (by rfl)) ?_
 refine wS_pure 1 [(15, .int .i64 (p2))] (by kernel_rfl) ?_
 obtain ⟨y1, hy1, hm⟩ := bindE hm
 refine wS_calls (d := 16) (f := 56) (vs := [.agg #[.int .i64 (p1_0), .int .i64 (p1_1)], .int .i64 (p2)]) (by kernel_rfl) ent56 (c_impl_next hy1) ?_
 rintro _ w3 ⟨rfl, hc3⟩
 replace F0_0 := F0_0.chg hc3 Dj.nil
 replace F0 := F0.chg hc3 notNil
 replace F1 := F1.chg hc3 notNil
 replace F2 := F2.chg hc3 notNil
 replace hB := hB.inS hc3 inNil
 replace hZ := Nat.le_trans hZ hc3.size
 refine ⟨.agg #[.int .i64 (y1.1), .int .i64 (y1.2)], rfl, ?_⟩
 refine wS_alloc (d := 11) (T := 29) (z := .agg #[.int .i64 (0), .int .i64 (0)]) (by kernel_rfl) (by kernel_rfl) ?_
 intro b3 w4 G3 F3 hc4
 replace F3 : Cl w4 b3 29 [.int .i64 (0), .int .i64 (0)] := F3
 have D2 : Dj [b1] [b3] := Dj.of (lt1 F1.lt) (low1 G3)
 have D3 : Dj [b2] [b3] := Dj.of (lt1 F2.lt) (low1 G3)
 replace F0_0 := F0_0.chg hc4 Dj.nil
 replace F0 := F0.chg hc4 notNil
 replace F1 := F1.chg hc4 notNil
 replace F2 := F2.chg hc4 notNil
 replace hB := hB.inS hc4 inNil
 replace G3 := Nat.le_trans hZ G3
 replace hZ := Nat.le_trans hZ hc4.size
 refine wS_store (T := 29) (g := b3) (o := 0) (ad := ⟨b3, 0, none⟩) (v := .agg #[.int .i64 (y1.1), .int .i64 (y1.2)]) (vs := [.int .i64 (y1.1), .int .i64 (y1.2)]) (by kernel_rfl) (by rfl) sz29 (by rfl) (by rfl) F3 (by simp only [List.length_cons, List.length_nil]; omega) ?_
 intro w5 F4 hc5
 replace F0_0 := F0_0.chg hc5 (Dj.of L0_0 (low1 G3))
 replace F0 := F0.chg hc5 (dj1 (Dj.of L0 (low1 G3)))
 replace F1 := F1.chg hc5 (dj1 D2)
 replace F2 := F2.chg hc5 (dj1 D3)
 replace hB := hB.inS hc5 (inLow (low1 G3))
 replace hZ := Nat.le_trans hZ hc5.size
 replace F4 : Cl w5 b3 29 [.int .i64 (y1.1), .int .i64 (y1.2)] := F4
 clear F3
 refine wS_end (by rfl) ?_
 refine eX_then ?_
 refine cW_seq ?_
 refine cW_seq ?_
 refine cW_region ?_
 refine wS_pure 1 [(17, .pointer (some ⟨b0, 0, none⟩))] (by kernel_rfl) ?_
 refine wS_loadA (d := 18) (T := 29) (ad := ⟨b3, 0, none⟩) (vs := [.int .i64 (y1.1), .int .i64 (y1.2)]) (by kernel_rfl) vt29 (fun i u hu => box_cells F4 0 hu (by rfl)) ?_
 obtain ⟨y2, hy2, hm⟩ := bindE hm
 refine wS_calls (d := 19) (f := 33) (vs := [.pointer (some ⟨b0, 0, none⟩), .agg #[.int .i64 (y1.1), .int .i64 (y1.2)]]) (by kernel_rfl) ent33 (c_impl_Maze_open_bimplMaze hy2 F0_0 F0) ?_
 rintro _ w6 ⟨rfl, hc6⟩
 replace F0_0 := F0_0.chg hc6 Dj.nil
 replace F0 := F0.chg hc6 notNil
 replace F1 := F1.chg hc6 notNil
 replace F2 := F2.chg hc6 notNil
 replace F4 := F4.chg hc6 notNil
 replace hB := hB.inS hc6 inNil
 replace hZ := Nat.le_trans hZ hc6.size
 refine ⟨.bool (y2), rfl, ?_⟩
 refine wS_pure 1 [(20, .bool (!y2))] (by kernel_rfl) ?_
 refine wS_end (by rfl) ?_
 refine eX_then ?_
 refine cW_cond (t := !y2) (by kernel_rfl) (fun hb1 => ?_) (fun hb1 => ?_)
 ·have hm := condT hb1 hm
  refine cW_seq ?_
  refine cW_region ?_
  refine wS_pure 1 [(21, .agg #[.int .i64 (0), .int .i64 (0), .int .i64 (0)])] (by kernel_rfl) ?_
  refine wS_store (T := 67) (g := b2) (o := 0) (ad := ⟨b2, 0, none⟩) (v := .agg #[.int .i64 (0), .int .i64 (0), .int .i64 (0)]) (vs := [.int .i64 (0), .int .i64 (0), .int .i64 (0)]) (by kernel_rfl) (by rfl) sz67 (by rfl) (by rfl) F2 (by simp only [List.length_cons, List.length_nil]; omega) ?_
  intro w7 F5 hc7
  replace F0_0 := F0_0.chg hc7 (Dj.of L0_0 (low1 G2))
  replace F0 := F0.chg hc7 (dj1 (Dj.of L0 (low1 G2)))
  replace F1 := F1.chg hc7 (dj1 D1)
  replace F4 := F4.chg hc7 (dj1 (D3).symm)
  replace hB := hB.inS hc7 (inLow (low1 G2))
  replace hZ := Nat.le_trans hZ hc7.size
  replace F5 : Cl w7 b2 67 [.int .i64 (0), .int .i64 (0), .int .i64 (0)] := F5
  clear F2
  refine wS_pure 2 [(10, .bool (false)), (9, .int .i64 (0))] (by kernel_rfl) ?_
  refine wS_end (by rfl) ?_
  refine eX_then ?_
  refine cW_ret ?_
  refine eX_then_ret ?_
  have hq : (some (((0, 0, 0), 0, false)) : Option ((Int × Int × Int) × (Int) × (Bool))) = some _ := hm
  replace hq := someE hq
  subst hq
  refine eX_ret (vs := [.agg #[.int .i64 (0), .int .i64 (0), .int .i64 (0)], .int .i64 (0), .bool (false)]) [.cell 8 67, .tmp 9, .tmp 10] (by rfl) ⟨⟨⟨b2, 0, none⟩, by kernel_rfl, run_loadVarA (vs := [.int .i64 (0), .int .i64 (0), .int .i64 (0)]) vt67 (fun i u hu => by exact box_cells F5 0 hu (by rfl))⟩, ⟨by (show lkE _ _ _ = _); kernel_rfl, ⟨by (show lkE _ _ _ = _); kernel_rfl, trivial⟩⟩⟩ ?_
  exact ⟨rfl, hB⟩
 ·have hm := condF hb1 hm
  refine cW_skip ?_
  refine eX_then ?_
  refine cW_seq ?_
  refine cW_region ?_
  refine wS_pure 1 [(22, .pointer (some ⟨b0, 0, none⟩))] (by kernel_rfl) ?_
  refine wS_loadA (d := 23) (T := 29) (ad := ⟨b3, 0, none⟩) (vs := [.int .i64 (y1.1), .int .i64 (y1.2)]) (by kernel_rfl) vt29 (fun i u hu => box_cells F4 0 hu (by rfl)) ?_
  obtain ⟨y3, hy3, hm⟩ := bindE hm
  refine wS_calls (d := 24) (f := 55) (vs := [.pointer (some ⟨b0, 0, none⟩), .agg #[.int .i64 (y1.1), .int .i64 (y1.2)]]) (by kernel_rfl) ent55 (c_impl_Maze_price_bimplMaze hy3 F0_0 F0) ?_
  rintro _ w8 ⟨rfl, hc8⟩
  replace F0_0 := F0_0.chg hc8 Dj.nil
  replace F0 := F0.chg hc8 notNil
  replace F1 := F1.chg hc8 notNil
  replace F2 := F2.chg hc8 notNil
  replace F4 := F4.chg hc8 notNil
  replace hB := hB.inS hc8 inNil
  replace hZ := Nat.le_trans hZ hc8.size
  refine ⟨.int .i64 (y3), rfl, ?_⟩
  refine wS_pure 1 [(12, .int .i64 (y3))] (by kernel_rfl) ?_
  refine wS_end (by rfl) ?_
  refine eX_then ?_
  refine cW_seq ?_
  obtain ⟨s1, hs1, hm⟩ := bindE hm
  refine cW_cut (fun a' w' => ∃ x1 : Int, x1 = s1 ∧ Fr 41 [(2, .int .i64 (p2)), (8, .pointer (some ⟨b2, 0, none⟩)), (11, .pointer (some ⟨b3, 0, none⟩)), (12, .int .i64 (x1))] a' ∧ Cl w' b2 67 [.int .i64 (0), .int .i64 (0), .int .i64 (0)] ∧ Cl w' b3 29 [.int .i64 (y1.1), .int .i64 (y1.2)] ∧ Chg [] w0 w' ∧ w0.heap.size ≤ w'.heap.size) ?_ ?_
  ·have hm := hs1
   refine cW_seq ?_
   refine cW_region ?_
   refine wS_pure 1 [(25, .pointer (some ⟨b1, 2, none⟩))] (by kernel_rfl) ?_
   refine wS_load1 (d := 26) (T := 3) (ad := ⟨b1, 2, none⟩) (v := .int .i64 (p1_2)) (by kernel_rfl) vt3 ((F1).cell 2) ?_
   refine wS_pure 2 [(28, .bool (p1_2 != 4)), (27, .bool (p1_2 != 4))] (by kernel_rfl) ?_
   refine wS_bool (p1_2 != 4) (fun hb2 => ?_) (fun hb2 => ?_)
   ·have hm := condT hb2 hm
    rewrite [hb2]
    refine wS_pure 1 [(29, .pointer (some ⟨b1, 2, none⟩))] (by kernel_rfl) ?_
    refine wS_load1 (d := 30) (T := 3) (ad := ⟨b1, 2, none⟩) (v := .int .i64 (p1_2)) (by kernel_rfl) vt3 ((F1).cell 2) ?_
    refine wS_pure 3 [(33, .bool (p1_2 != p2)), (32, .bool (p1_2 != p2)), (31, .int .i64 (p2))] (by kernel_rfl) ?_
    refine wS_end (by rfl) ?_
    refine eX_then ?_
    refine cW_prune [(2, .int .i64 (p2)), (3, .int .i64 (p3)), (8, .pointer (some ⟨b2, 0, none⟩)), (11, .pointer (some ⟨b3, 0, none⟩)), (12, .int .i64 (y3)), (33, .bool (p1_2 != p2))] (by kernel_rfl) (by kernel_rfl) (fun a1 => ?_)
    refine cW_cond (t := p1_2 != p2) (by kernel_rfl) (fun hb3 => ?_) (fun hb3 => ?_)
    ·have hm := condT hb3 hm
     refine cW_region ?_
     refine wS_pure 4 [(12, .int .i64 (wr (y3 + p3))), (36, .int .i64 (wr (y3 + p3))), (35, .int .i64 (p3)), (34, .int .i64 (y3))] (by kernel_rfl) ?_
     refine wS_end (by rfl) ?_
     have hq : (some (wr (y3 + p3)) : Option (Int)) = some _ := hm
     replace hq := someE hq
     subst hq
     exact eX_J (fun hst => ⟨wr (y3 + p3), rfl, Fr.of hst (by kernel_rfl), F2, F4, hB, hZ⟩)
    ·have hm := condF hb3 hm
     refine cW_skip ?_
     have hq : (some y3 : Option (Int)) = some _ := hm
     replace hq := someE hq
     subst hq
     exact eX_J (fun hst => ⟨y3, rfl, Fr.of hst (by kernel_rfl), F2, F4, hB, hZ⟩)
   ·have hm := condF hb2 hm
    rewrite [hb2]
    refine wS_pure 5 [(33, .bool (false)), (32, undef), (31, undef), (30, undef), (29, undef)] (by kernel_rfl) ?_
    refine wS_end (by rfl) ?_
    refine eX_then ?_
    refine cW_prune [(2, .int .i64 (p2)), (3, .int .i64 (p3)), (8, .pointer (some ⟨b2, 0, none⟩)), (11, .pointer (some ⟨b3, 0, none⟩)), (12, .int .i64 (y3)), (33, .bool (false))] (by kernel_rfl) (by kernel_rfl) (fun a2 => ?_)
    refine cW_cond_f (by kernel_rfl) ?_
    refine cW_skip ?_
    have hq : (some y3 : Option (Int)) = some _ := hm
    replace hq := someE hq
    subst hq
    exact eX_J (fun hst => ⟨y3, rfl, Fr.of hst (by kernel_rfl), F2, F4, hB, hZ⟩)
  ·rintro a' w9 ⟨x1, hJ, hF1, F6, F7, hB, hZ⟩
   subst hJ
   refine Fr.goX hF1 (by kernel_rfl) ?_
   refine eX_then ?_
   refine cW_seq ?_
   refine cW_region ?_
   refine wS_loadA (d := 37) (T := 29) (ad := ⟨b3, 0, none⟩) (vs := [.int .i64 (y1.1), .int .i64 (y1.2)]) (by kernel_rfl) vt29 (fun i u hu => box_cells F7 0 hu (by rfl)) ?_
   refine wS_pure 3 [(40, .int .i64 (x1)), (39, .agg #[.int .i64 (y1.1), .int .i64 (y1.2), .int .i64 (p2)]), (38, .int .i64 (p2))] (by kernel_rfl) ?_
   refine wS_store (T := 67) (g := b2) (o := 0) (ad := ⟨b2, 0, none⟩) (v := .agg #[.int .i64 (y1.1), .int .i64 (y1.2), .int .i64 (p2)]) (vs := [.int .i64 (y1.1), .int .i64 (y1.2), .int .i64 (p2)]) (by kernel_rfl) (by rfl) sz67 (by rfl) (by rfl) F6 (by simp only [List.length_cons, List.length_nil]; omega) ?_
   intro w10 F8 hc9
   replace F7 := F7.chg hc9 (dj1 (D3).symm)
   replace hB := hB.inS hc9 (inLow (low1 G2))
   replace hZ := Nat.le_trans hZ hc9.size
   replace F8 : Cl w10 b2 67 [.int .i64 (y1.1), .int .i64 (y1.2), .int .i64 (p2)] := F8
   clear F6
   refine wS_pure 2 [(10, .bool (true)), (9, .int .i64 (x1))] (by kernel_rfl) ?_
   refine wS_end (by rfl) ?_
   refine eX_then ?_
   refine cW_ret ?_
   have hq : (some (((y1.1, y1.2, p2), x1, true)) : Option ((Int × Int × Int) × (Int) × (Bool))) = some _ := hm
   replace hq := someE hq
   subst hq
   refine eX_ret (vs := [.agg #[.int .i64 (y1.1), .int .i64 (y1.2), .int .i64 (p2)], .int .i64 (x1), .bool (true)]) [.cell 8 67, .tmp 9, .tmp 10] (by rfl) ⟨⟨⟨b2, 0, none⟩, by kernel_rfl, run_loadVarA (vs := [.int .i64 (y1.1), .int .i64 (y1.2), .int .i64 (p2)]) vt67 (fun i u hu => by exact box_cells F8 0 hu (by rfl))⟩, ⟨by (show lkE _ _ _ = _); kernel_rfl, ⟨by (show lkE _ _ _ = _); kernel_rfl, trivial⟩⟩⟩ ?_
   exact ⟨rfl, hB⟩

set_option maxRecDepth 100000 in
/-- impl.Maze).costs -/
theorem c_impl_Maze_costs_bimplMaze {w0 : World} {l0_0 : List (List (Int))} {A0_0 : Option Addr} {cap0_0 : Nat} {fp0_0 : List Nat} {b0 : Nat} {p1_0 : Int} {p1_1 : Int} {p2 : Int} {r : (List ((Int × Int × Int) × Int))} (hm : m_impl_Maze_costs_bimplMaze l0_0 p1_0 p1_1 p2 = some r) (F0_0 : SlR 1 encI w0 fp0_0 A0_0 l0_0) (F0 : Cl w0 b0 26 [.slice A0_0 (l0_0).length cap0_0]) :
  Calls Try.prog 35 #[.pointer (some ⟨b0, 0, none⟩), .agg #[.int .i64 (p1_0), .int .i64 (p1_1)], .int .i64 (p2)] w0 fun e w' => ∃ b100, e = .returned (.map (some b100)) ∧ Mp okIII ekIII kI w' b100 r ∧ (∀ x ∈ [b100], w0.heap.size ≤ x) ∧ Chg [] w0 w' := by
 have L0_0 := F0_0.low
 have L0 := lt1 F0.lt
 have hB : Chg [] w0 w0 := Chg.refl _ _
 have hZ := Nat.le_refl w0.heap.size
 unfold m_impl_Maze_costs_bimplMaze at hm
 refine enterE (N := 126) Try.func35 (by rfl) Try.ntmps35 (by simp) [(0, .pointer (some ⟨b0, 0, none⟩)), (1, .agg #[.int .i64 (p1_0), .int .i64 (p1_1)]), (2, .int .i64 (p2))] (by rfl) (by kernel_rfl) (fun a => ?_)
 refine cW_seq ?_
 refine cW_region ?_
 refine wS_box (d := 4) (T := 29) (x := .agg #[.int .i64 (p1_0), .int .i64 (p1_1)]) (by kernel_rfl) ?_
 intro b1 w1 G1 F1 hc1
 replace F1 : Cl w1 b1 29 [.int .i64 (p1_0), .int .i64 (p1_1)] := F1
 replace F0_0 := F0_0.chg hc1 Dj.nil
 replace F0 := F0.chg hc1 notNil
 replace hB := hB.inS hc1 inNil
 replace G1 := Nat.le_trans hZ G1
 replace hZ := Nat.le_trans hZ hc1.size
 refine wS_pure 1 [(6, .map none)] (by kernel_rfl) ?_
 refine wS_end (by rfl) ?_
 refine eX_then ?_
 refine cW_seq ?_
 refine cW_region ?_
 refine wS_makeMap (V := Int) (d := 25) (T := 64) (by kernel_rfl) okIII ekIII kI ?_
 intro b2 w2 G2 F2 hc2
 have D1 : Dj [b1] [b2] := Dj.of (lt1 F1.lt) (low1 G2)
 replace F0_0 := F0_0.chg hc2 Dj.nil
 replace F0 := F0.chg hc2 notNil
 replace F1 := F1.chg hc2 notNil
 replace hB := hB.inS hc2 inNil
 replace G2 := Nat.le_trans hZ G2
 replace G2 := low1 G2
 replace hZ := Nat.le_trans hZ hc2.size
 refine wS_pure 1 [(7, .map (some b2))] (by kernel_rfl) ?_
 refine wS_end (by rfl) ?_
 refine eX_then ?_
 refine cW_seq ?_
 refine cW_region ?_
 refine wS_bs0 (α := Int × Int × Int) (enc := encIII) (d := 26) (t := 97) (T := 67) (by kernel_rfl) el97 ?_
 intro b3 w3 G3 F3 hc3
 have D2 : Dj [b1] [b3] := Dj.of (lt1 F1.lt) (low1 G3)
 have D3 : Dj [b2] [b3] := Dj.of F2.low (low1 G3)
 replace F0_0 := F0_0.chg hc3 Dj.nil
 replace F0 := F0.chg hc3 notNil
 replace F1 := F1.chg hc3 notNil
 replace F2 := F2.chg hc3 Dj.nil
 replace hB := hB.inS hc3 inNil
 replace G3 := Nat.le_trans hZ G3
 replace G3 := low1 G3
 replace hZ := Nat.le_trans hZ hc3.size
 refine wS_pure 1 [(8, .slice (some ⟨b3, 0, none⟩) (([] : List (Int × Int × Int))).length 0)] (by kernel_rfl) ?_
 refine wS_end (by rfl) ?_
 refine eX_then ?_
 refine cW_seq ?_
 refine cW_seq ?_
 refine cW_region ?_
 refine wS_pure 3 [(29, .pointer (some ⟨b0, 0, none⟩)), (28, .pointer (some ⟨b0, 0, none⟩)), (27, .pointer (some ⟨b0, 0, none⟩))] (by kernel_rfl) ?_
 refine wS_load1 (d := 30) (T := 24) (ad := ⟨b0, 0, none⟩) (v := .slice A0_0 (l0_0).length cap0_0) (by kernel_rfl) vt24 ((F0).cell 0) ?_
 refine wS_pure 2 [(32, .int .i64 (0)), (31, .int .i64 (((l0_0).length : Int)))] (by kernel_rfl) ?_
 refine wS_end (by rfl) ?_
 refine eX_then ?_
 obtain ⟨r1, hr1, hm⟩ := bindE hm
 have hm1 := hm
 refine cW_cut (fun a' w' => ∃ l1 : List (Int × Int × Int), ∃ A1 : Option Addr, ∃ cap1 : Nat, ∃ fp1 : List Nat, l1 = r1 ∧ Fr 126 [(0, .pointer (some ⟨b0, 0, none⟩)), (2, .int .i64 (p2)), (4, .pointer (some ⟨b1, 0, none⟩)), (7, .map (some b2)), (8, .slice A1 (l1).length cap1)] a' ∧ SlR 1 encI w' fp0_0 A0_0 l0_0 ∧ Cl w' b0 26 [.slice A0_0 (l0_0).length cap0_0] ∧ Cl w' b1 29 [.int .i64 (p1_0), .int .i64 (p1_1)] ∧ Mp okIII ekIII kI w' b2 (([] : List ((Int × Int × Int) × Int))) ∧ Ow 3 encIII 67 w' fp1 A1 cap1 l1 ∧ (∀ x ∈ fp1, w0.heap.size ≤ x) ∧ Dj [b1] fp1 ∧ Dj [b2] fp1 ∧ Chg [] w0 w' ∧ w0.heap.size ≤ w'.heap.size) ?_ ?_
 ·refine cW_block ?_
  refine cW_loop _ (fun (s1 : (List (Int × Int × Int)) × Int) a' w' => ∃ l3 : List (Int × Int × Int), ∃ A3 : Option Addr, ∃ cap3 : Nat, ∃ fp2 : List Nat, ∃ x1 : Int, (l3, x1) = s1 ∧ Fr 126 [(0, .pointer (some ⟨b0, 0, none⟩)), (2, .int .i64 (p2)), (4, .pointer (some ⟨b1, 0, none⟩)), (7, .map (some b2)), (8, .slice A3 (l3).length cap3), (31, .int .i64 (((l0_0).length : Int))), (32, .int .i64 (x1))] a' ∧ SlR 1 encI w' fp0_0 A0_0 l0_0 ∧ Cl w' b0 26 [.slice A0_0 (l0_0).length cap0_0] ∧ Cl w' b1 29 [.int .i64 (p1_0), .int .i64 (p1_1)] ∧ Mp okIII ekIII kI w' b2 (([] : List ((Int × Int × Int) × Int))) ∧ Ow 3 encIII 67 w' fp2 A3 cap3 l3 ∧ (∀ x ∈ fp2, w0.heap.size ≤ x) ∧ Dj [b1] fp2 ∧ Dj [b2] fp2 ∧ Chg [] w0 w' ∧ w0.heap.size ≤ w'.heap.size) hr1 (fun hst => ⟨([] : List (Int × Int × Int)), (some ⟨b3, 0, none⟩), 0, [b3], 0, rfl, Fr.of hst (by kernel_rfl), F0_0, F0, F1, F2, F3, G3, D2, D3, hB, hZ⟩) ?_
  rintro _ c1 a' w4 ⟨l3, A3, cap3, fp2, x1, rfl, hF1, F4, F5, F6, F7, F8, G4, D4, D5, hB, hZ⟩ hx1
  refine Fr.goOn hF1 (by kernel_rfl) ?_
  have hm := hx1
  unfold m_impl_Maze_costs_bimplMaze_s9 at hm
  refine cW_seq ?_
  refine cW_region ?_
  refine wS_pure 1 [(33, .bool (decide (x1 < (((l0_0).length : Int)))))] (by kernel_rfl) ?_
  refine wS_end (by rfl) ?_
  refine eX_then ?_
  refine cW_seq ?_
  refine cW_cond (t := decide (x1 < (((l0_0).length : Int)))) (by kernel_rfl) (fun hb1 => ?_) (fun hb1 => ?_)
  ·have hm := condT hb1 hm
   refine cW_skip ?_
   refine eX_then ?_
   refine cW_seq ?_
   refine cW_block ?_
   refine cW_seq ?_
   refine cW_region ?_
   refine wS_pure 2 [(9, .int .i64 (x1)), (34, .int .i64 (x1))] (by kernel_rfl) ?_
   refine wS_end (by rfl) ?_
   refine eX_then ?_
   refine cW_seq ?_
   refine cW_region ?_
   refine wS_pure 3 [(37, .pointer (some ⟨b0, 0, none⟩)), (36, .pointer (some ⟨b0, 0, none⟩)), (35, .pointer (some ⟨b0, 0, none⟩))] (by kernel_rfl) ?_
   refine wS_load1 (d := 38) (T := 24) (ad := ⟨b0, 0, none⟩) (v := .slice A0_0 (l0_0).length cap0_0) (by kernel_rfl) vt24 ((F5).cell 0) ?_
   refine wS_pure 1 [(39, .int .i64 (x1))] (by kernel_rfl) ?_
   obtain ⟨x2, hx2, hm⟩ := bindE hm
   refine wS_idx (d := 40) (T := 24) (A := A0_0) (n := (l0_0).length) (cap := cap0_0) (kd := .i64) (m := x1) (by kernel_rfl) sl24 (F4.is hx2) ?_
   obtain ⟨A4, cap4, hc4, F9, K1⟩ := SlR.row F4 hx2
   refine wS_load1 (d := 41) (T := 38) (ad := (elA A0_0 1 (x1) 0)) (v := .slice A4 (x2).length cap4) (by kernel_rfl) vt38 hc4 ?_
   refine wS_pure 2 [(43, .int .i64 (0)), (42, .int .i64 (((x2).length : Int)))] (by kernel_rfl) ?_
   refine wS_end (by rfl) ?_
   refine eX_then ?_
   obtain ⟨r2, hr2, hm⟩ := bindE hm
   have hm2 := hm
   refine cW_cut (fun a' w' => ∃ l4 : List (Int × Int × Int), ∃ A5 : Option Addr, ∃ cap5 : Nat, ∃ fp3 : List Nat, l4 = r2 ∧ Fr 126 [(0, .pointer (some ⟨b0, 0, none⟩)), (2, .int .i64 (p2)), (4, .pointer (some ⟨b1, 0, none⟩)), (7, .map (some b2)), (8, .slice A5 (l4).length cap5), (31, .int .i64 (((l0_0).length : Int))), (32, .int .i64 (x1))] a' ∧ SlR 1 encI w' fp0_0 A0_0 l0_0 ∧ Cl w' b0 26 [.slice A0_0 (l0_0).length cap0_0] ∧ Cl w' b1 29 [.int .i64 (p1_0), .int .i64 (p1_1)] ∧ Mp okIII ekIII kI w' b2 (([] : List ((Int × Int × Int) × Int))) ∧ Ow 3 encIII 67 w' fp3 A5 cap5 l4 ∧ (∀ x ∈ fp3, w0.heap.size ≤ x) ∧ Dj [b1] fp3 ∧ Dj [b2] fp3 ∧ Chg [] w0 w' ∧ w0.heap.size ≤ w'.heap.size) ?_ ?_
   ·refine cW_block ?_
    refine cW_loop _ (fun (s2 : (List (Int × Int × Int)) × Int) a' w' => ∃ l5 : List (Int × Int × Int), ∃ A6 : Option Addr, ∃ cap6 : Nat, ∃ fp4 : List Nat, ∃ x3 : Int, (l5, x3) = s2 ∧ Fr 126 [(0, .pointer (some ⟨b0, 0, none⟩)), (2, .int .i64 (p2)), (4, .pointer (some ⟨b1, 0, none⟩)), (7, .map (some b2)), (8, .slice A6 (l5).length cap6), (9, .int .i64 (x1)), (31, .int .i64 (((l0_0).length : Int))), (32, .int .i64 (x1)), (42, .int .i64 (((x2).length : Int))), (43, .int .i64 (x3))] a' ∧ SlR 1 encI w' fp0_0 A0_0 l0_0 ∧ Cl w' b0 26 [.slice A0_0 (l0_0).length cap0_0] ∧ Cl w' b1 29 [.int .i64 (p1_0), .int .i64 (p1_1)] ∧ Mp okIII ekIII kI w' b2 (([] : List ((Int × Int × Int) × Int))) ∧ Ow 3 encIII 67 w' fp4 A6 cap6 l5 ∧ (∀ x ∈ fp4, w0.heap.size ≤ x) ∧ Dj [b1] fp4 ∧ Dj [b2] fp4 ∧ Chg [] w0 w' ∧ w0.heap.size ≤ w'.heap.size) hr2 (fun hst => ⟨l3, A3, cap3, fp2, 0, rfl, Fr.of hst (by kernel_rfl), F4, F5, F6, F7, F8, G4, D4, D5, hB, hZ⟩) ?_
    rintro _ c2 a' w5 ⟨l5, A6, cap6, fp4, x3, rfl, hF2, F10, F11, F12, F13, F14, G5, D6, D7, hB, hZ⟩ hx3
    refine Fr.goOn hF2 (by kernel_rfl) ?_
    have hm := hx3
    unfold m_impl_Maze_costs_bimplMaze_s12 at hm
    refine cW_seq ?_
    refine cW_region ?_
    refine wS_pure 1 [(44, .bool (decide (x3 < (((x2).length : Int)))))] (by kernel_rfl) ?_
    refine wS_end (by rfl) ?_
    refine eX_then ?_
    refine cW_seq ?_
    refine cW_cond (t := decide (x3 < (((x2).length : Int)))) (by kernel_rfl) (fun hb2 => ?_) (fun hb2 => ?_)
    ·have hm := condT hb2 hm
     refine cW_skip ?_
     refine eX_then ?_
     refine cW_seq ?_
     refine cW_block ?_
     refine cW_seq ?_
     refine cW_region ?_
     refine wS_pure 2 [(10, .int .i64 (x3)), (45, .int .i64 (x3))] (by kernel_rfl) ?_
     refine wS_end (by rfl) ?_
     refine eX_then ?_
     refine cW_seq ?_
     refine cW_region ?_
     refine wS_pure 1 [(46, .int .i64 (0))] (by kernel_rfl) ?_
     refine wS_end (by rfl) ?_
     refine eX_then ?_
     obtain ⟨r3, hr3, hm⟩ := bindE hm
     have hm3 := hm
     refine cW_cut (fun a' w' => ∃ l6 : List (Int × Int × Int), ∃ A7 : Option Addr, ∃ cap7 : Nat, ∃ fp5 : List Nat, l6 = r3 ∧ Fr 126 [(0, .pointer (some ⟨b0, 0, none⟩)), (2, .int .i64 (p2)), (4, .pointer (some ⟨b1, 0, none⟩)), (7, .map (some b2)), (8, .slice A7 (l6).length cap7), (9, .int .i64 (x1)), (31, .int .i64 (((l0_0).length : Int))), (32, .int .i64 (x1)), (42, .int .i64 (((x2).length : Int))), (43, .int .i64 (x3))] a' ∧ SlR 1 encI w' fp0_0 A0_0 l0_0 ∧ Cl w' b0 26 [.slice A0_0 (l0_0).length cap0_0] ∧ Cl w' b1 29 [.int .i64 (p1_0), .int .i64 (p1_1)] ∧ Mp okIII ekIII kI w' b2 (([] : List ((Int × Int × Int) × Int))) ∧ Ow 3 encIII 67 w' fp5 A7 cap7 l6 ∧ (∀ x ∈ fp5, w0.heap.size ≤ x) ∧ Dj [b1] fp5 ∧ Dj [b2] fp5 ∧ Chg [] w0 w' ∧ w0.heap.size ≤ w'.heap.size) ?_ ?_
     ·refine cW_block ?_
      refine cW_loop _ (fun (s3 : (List (Int × Int × Int)) × Int) a' w' => ∃ l7 : List (Int × Int × Int), ∃ A8 : Option Addr, ∃ cap8 : Nat, ∃ fp6 : List Nat, ∃ x4 : Int, (l7, x4) = s3 ∧ Fr 126 [(0, .pointer (some ⟨b0, 0, none⟩)), (2, .int .i64 (p2)), (4, .pointer (some ⟨b1, 0, none⟩)), (7, .map (some b2)), (8, .slice A8 (l7).length cap8), (9, .int .i64 (x1)), (10, .int .i64 (x3)), (31, .int .i64 (((l0_0).length : Int))), (32, .int .i64 (x1)), (42, .int .i64 (((x2).length : Int))), (43, .int .i64 (x3)), (46, .int .i64 (x4))] a' ∧ SlR 1 encI w' fp0_0 A0_0 l0_0 ∧ Cl w' b0 26 [.slice A0_0 (l0_0).length cap0_0] ∧ Cl w' b1 29 [.int .i64 (p1_0), .int .i64 (p1_1)] ∧ Mp okIII ekIII kI w' b2 (([] : List ((Int × Int × Int) × Int))) ∧ Ow 3 encIII 67 w' fp6 A8 cap8 l7 ∧ (∀ x ∈ fp6, w0.heap.size ≤ x) ∧ Dj [b1] fp6 ∧ Dj [b2] fp6 ∧ Chg [] w0 w' ∧ w0.heap.size ≤ w'.heap.size) hr3 (fun hst => ⟨l5, A6, cap6, fp4, 0, rfl, Fr.of hst (by kernel_rfl), F10, F11, F12, F13, F14, G5, D6, D7, hB, hZ⟩) ?_
      rintro _ c3 a' w6 ⟨l7, A8, cap8, fp6, x4, rfl, hF3, F15, F16, F17, F18, F19, G6, D8, D9, hB, hZ⟩ hx4
      refine Fr.goOn hF3 (by kernel_rfl) ?_
      have hm := hx4
      unfold m_impl_Maze_costs_bimplMaze_s13 at hm
      refine cW_seq ?_
      refine cW_region ?_
      refine wS_pure 1 [(47, .bool (decide (x4 < 5)))] (by kernel_rfl) ?_
      refine wS_end (by rfl) ?_
      refine eX_then ?_
      refine cW_seq ?_
      refine cW_cond (t := decide (x4 < 5)) (by kernel_rfl) (fun hb3 => ?_) (fun hb3 => ?_)
      ·have hm := condT hb3 hm
       refine cW_skip ?_
       refine eX_then ?_
       refine cW_seq ?_
       refine cW_block ?_
       obtain ⟨s4, hs1, hm⟩ := bindE hm
       refine cW_cut (fun a' w' => ∃ l8 : List (Int × Int × Int), ∃ A9 : Option Addr, ∃ cap9 : Nat, ∃ fp7 : List Nat, l8 = s4 ∧ Fr 126 [(0, .pointer (some ⟨b0, 0, none⟩)), (2, .int .i64 (p2)), (4, .pointer (some ⟨b1, 0, none⟩)), (7, .map (some b2)), (8, .slice A9 (l8).length cap9), (9, .int .i64 (x1)), (10, .int .i64 (x3)), (31, .int .i64 (((l0_0).length : Int))), (32, .int .i64 (x1)), (42, .int .i64 (((x2).length : Int))), (43, .int .i64 (x3)), (46, .int .i64 (x4))] a' ∧ SlR 1 encI w' fp0_0 A0_0 l0_0 ∧ Cl w' b0 26 [.slice A0_0 (l0_0).length cap0_0] ∧ Cl w' b1 29 [.int .i64 (p1_0), .int .i64 (p1_1)] ∧ Mp okIII ekIII kI w' b2 (([] : List ((Int × Int × Int) × Int))) ∧ Ow 3 encIII 67 w' fp7 A9 cap9 l8 ∧ (∀ x ∈ fp7, w0.heap.size ≤ x) ∧ Dj [b1] fp7 ∧ Dj [b2] fp7 ∧ Chg [] w0 w' ∧ w0.heap.size ≤ w'.heap.size) ?_ ?_
       ·have hm := hs1
        refine cW_seq ?_
        refine cW_region ?_
        refine wS_pure 2 [(11, .int .i64 (x4)), (48, .int .i64 (x4))] (by kernel_rfl) ?_
        refine wS_end (by rfl) ?_
        refine eX_then ?_
        refine cW_seq ?_
        refine cW_region ?_
        refine wS_pure 3 [(51, .agg #[.int .i64 (x3), .int .i64 (x1)]), (50, .int .i64 (x1)), (49, .int .i64 (x3))] (by kernel_rfl) ?_
        refine wS_alloc (d := 12) (T := 29) (z := .agg #[.int .i64 (0), .int .i64 (0)]) (by kernel_rfl) (by kernel_rfl) ?_
        intro b4 w7 G7 F20 hc5
        replace F20 : Cl w7 b4 29 [.int .i64 (0), .int .i64 (0)] := F20
        have D10 : Dj [b1] [b4] := Dj.of (lt1 F17.lt) (low1 G7)
        have D11 : Dj [b2] [b4] := Dj.of F18.low (low1 G7)
        have D12 : Dj fp6 [b4] := Dj.of F19.low (low1 G7)
        replace F15 := F15.chg hc5 Dj.nil
        replace F16 := F16.chg hc5 notNil
        replace F17 := F17.chg hc5 notNil
        replace F18 := F18.chg hc5 Dj.nil
        replace F19 := F19.chg hc5 Dj.nil
        replace hB := hB.inS hc5 inNil
        replace G7 := Nat.le_trans hZ G7
        replace hZ := Nat.le_trans hZ hc5.size
        refine wS_store (T := 29) (g := b4) (o := 0) (ad := ⟨b4, 0, none⟩) (v := .agg #[.int .i64 (x3), .int .i64 (x1)]) (vs := [.int .i64 (x3), .int .i64 (x1)]) (by kernel_rfl) (by rfl) sz29 (by rfl) (by rfl) F20 (by simp only [List.length_cons, List.length_nil]; omega) ?_
        intro w8 F21 hc6
        replace F15 := F15.chg hc6 (Dj.of L0_0 (low1 G7))
        replace F16 := F16.chg hc6 (dj1 (Dj.of L0 (low1 G7)))
        replace F17 := F17.chg hc6 (dj1 D10)
        replace F18 := F18.chg hc6 D11
        replace F19 := F19.chg hc6 D12
        replace hB := hB.inS hc6 (inLow (low1 G7))
        replace hZ := Nat.le_trans hZ hc6.size
        replace F21 : Cl w8 b4 29 [.int .i64 (x3), .int .i64 (x1)] := F21
        clear F20
        refine wS_end (by rfl) ?_
        refine eX_then ?_
        refine cW_seq ?_
        refine cW_region ?_
        refine wS_pure 1 [(52, .pointer (some ⟨b0, 0, none⟩))] (by kernel_rfl) ?_
        refine wS_loadA (d := 53) (T := 29) (ad := ⟨b4, 0, none⟩) (vs := [.int .i64 (x3), .int .i64 (x1)]) (by kernel_rfl) vt29 (fun i u hu => box_cells F21 0 hu (by rfl)) ?_
        obtain ⟨y1, hy1, hm⟩ := bindE hm
        refine wS_calls (d := 54) (f := 33) (vs := [.pointer (some ⟨b0, 0, none⟩), .agg #[.int .i64 (x3), .int .i64 (x1)]]) (by kernel_rfl) ent33 (c_impl_Maze_open_bimplMaze hy1 F15 F16) ?_
        rintro _ w9 ⟨rfl, hc7⟩
        replace F15 := F15.chg hc7 Dj.nil
        replace F16 := F16.chg hc7 notNil
        replace F17 := F17.chg hc7 notNil
        replace F18 := F18.chg hc7 Dj.nil
        replace F19 := F19.chg hc7 Dj.nil
        replace F21 := F21.chg hc7 notNil
        replace hB := hB.inS hc7 inNil
        replace hZ := Nat.le_trans hZ hc7.size
        refine ⟨.bool (y1), rfl, ?_⟩
        refine wS_end (by rfl) ?_
        refine eX_then ?_
        refine cW_cond (t := y1) (by kernel_rfl) (fun hb4 => ?_) (fun hb4 => ?_)
        ·have hm := condT hb4 hm
         refine cW_region ?_
         refine wS_pure 1 [(55, .slice A8 (l7).length cap8)] (by kernel_rfl) ?_
         refine wS_loadA (d := 56) (T := 29) (ad := ⟨b4, 0, none⟩) (vs := [.int .i64 (x3), .int .i64 (x1)]) (by kernel_rfl) vt29 (fun i u hu => box_cells F21 0 hu (by rfl)) ?_
         refine wS_pure 2 [(58, .agg #[.int .i64 (x3), .int .i64 (x1), .int .i64 (x4)]), (57, .int .i64 (x4))] (by kernel_rfl) ?_
         refine wS_bs (enc := encIII) ([(x3, x1, x4)] : List (Int × Int × Int)) [.int .i64 (x3), .int .i64 (x1), .int .i64 (x4)] (d := 59) (t := 97) (T := 67) (n := 1) (ps := [(0, .agg #[.int .i64 (x3), .int .i64 (x1), .int .i64 (x4)])]) (by kernel_rfl) el97 encIII_ok (by rfl) (by omega) (by omega) (by kernel_rfl) (by rfl) ?_
         intro b5 w10 G8 F22 hc8
         have D13 : Dj [b1] [b5] := Dj.of (lt1 F17.lt) (low1 G8)
         have D14 : Dj [b2] [b5] := Dj.of F18.low (low1 G8)
         have D15 : Dj fp6 [b5] := Dj.of F19.low (low1 G8)
         have D16 : Dj [b4] [b5] := Dj.of (lt1 F21.lt) (low1 G8)
         replace F15 := F15.chg hc8 Dj.nil
         replace F16 := F16.chg hc8 notNil
         replace F17 := F17.chg hc8 notNil
         replace F18 := F18.chg hc8 Dj.nil
         replace F19 := F19.chg hc8 Dj.nil
         replace F21 := F21.chg hc8 notNil
         replace hB := hB.inS hc8 inNil
         replace G8 := Nat.le_trans hZ G8
         replace G8 := low1 G8
         replace hZ := Nat.le_trans hZ hc8.size
         obtain ⟨_, hk1, hm⟩ := bindE hm
         replace hk1 := apE hk1
         refine wS_append (enc := encIII) (l := (l7 : List (Int × Int × Int))) (l2 := (([(x3, x1, x4)] : List (Int × Int × Int)) : List (Int × Int × Int))) (d := 60) (t := 97) (T := 67) (A := A8) (A2 := (some ⟨b5, 0, none⟩)) (cap := cap8) (cap2 := 1) (by kernel_rfl) el97 encIII_ok F19 (F22.sl encIII_ok) (by rfl) hk1 ?_
         intro w11 fp8 A10 cap10 F23 hc9 hp1
         have G9 := low_ap G6 hZ hp1
         have D17 : Dj [b1] fp8 := Dj.ap D8 (lt1 F17.lt) hp1
         have D18 : Dj [b2] fp8 := Dj.ap D9 F18.low hp1
         have D19 : Dj [b4] fp8 := Dj.ap (D12).symm (lt1 F21.lt) hp1
         have D20 : Dj [b5] fp8 := Dj.ap (D15).symm F22.low hp1
         replace F15 := F15.chg hc9 (Dj.of L0_0 G6)
         replace F16 := F16.chg hc9 (dj1 (Dj.of L0 G6))
         replace F17 := F17.chg hc9 (dj1 D8)
         replace F18 := F18.chg hc9 D9
         replace F21 := F21.chg hc9 (dj1 (D12).symm)
         replace F22 := F22.chg hc9 (D15).symm
         replace hB := hB.inS hc9 (inLow G6)
         replace hZ := Nat.le_trans hZ hc9.size
         refine wS_pure 1 [(8, .slice A10 (l7 ++ (([(x3, x1, x4)] : List (Int × Int × Int)))).length cap10)] (by kernel_rfl) ?_
         refine wS_end (by rfl) ?_
         have hq : (some (l7 ++ (([(x3, x1, x4)] : List (Int × Int × Int)))) : Option ((List (Int × Int × Int)))) = some _ := hm
         replace hq := someE hq
         subst hq
         exact eX_J (fun hst => ⟨l7 ++ (([(x3, x1, x4)] : List (Int × Int × Int))), A10, cap10, fp8, rfl, Fr.of hst (by kernel_rfl), F15, F16, F17, F18, F23, G9, D17, D18, hB, hZ⟩)
        ·have hm := condF hb4 hm
         refine cW_skip ?_
         have hq : (some l7 : Option ((List (Int × Int × Int)))) = some _ := hm
         replace hq := someE hq
         subst hq
         exact eX_J (fun hst => ⟨l7, A8, cap8, fp6, rfl, Fr.of hst (by kernel_rfl), F15, F16, F17, F18, F19, G6, D8, D9, hB, hZ⟩)
       ·rintro a' w12 ⟨l8, A9, cap9, fp7, hJ, hF4, F24, F25, F26, F27, F28, G10, D21, D22, hB, hZ⟩
        subst hJ
        refine Fr.goX hF4 (by kernel_rfl) ?_
        refine eX_block ?_
        refine eX_then ?_
        refine cW_region ?_
        refine wS_pure 2 [(46, .int .i64 (wr (x4 + 1))), (61, .int .i64 (wr (x4 + 1)))] (by kernel_rfl) ?_
        refine wS_end (by rfl) ?_
        have hq : (some (Ctl.next ((l8, wr (x4 + 1)))) : Option (Ctl ((List (Int × Int × Int)) × Int) ((List (Int × Int × Int))))) = some _ := hm
        replace hq := someE hq
        subst hq
        exact eX_next hx4 (fun hst => ⟨l8, A9, cap9, fp7, wr (x4 + 1), rfl, Fr.of hst (by kernel_rfl), F24, F25, F26, F27, F28, G10, D21, D22, hB, hZ⟩)
      ·have hm := condF hb3 hm
       refine cW_exit ?_
       refine eX_then_exit ?_
       have hq : (some (Ctl.out l7) : Option (Ctl ((List (Int × Int × Int)) × Int) ((List (Int × Int × Int))))) = some _ := hm
       replace hq := someE hq
       subst hq
       refine eX_outX hx4 (fun hr4 => ?_)
       replace hr4 := hr4.symm
       subst hr4
       refine eX_block_hit ?_
       exact eX_J (fun hst => ⟨l7, A8, cap8, fp6, rfl, Fr.of hst (by kernel_rfl), F15, F16, F17, F18, F19, G6, D8, D9, hB, hZ⟩)
     ·rintro a' w13 ⟨l6, A7, cap7, fp5, hJ, hF5, F29, F30, F31, F32, F33, G11, D23, D24, hB, hZ⟩
      subst hJ
      refine Fr.goX hF5 (by kernel_rfl) ?_
      refine eX_block ?_
      refine eX_then ?_
      refine cW_region ?_
      refine wS_pure 2 [(43, .int .i64 (wr (x3 + 1))), (62, .int .i64 (wr (x3 + 1)))] (by kernel_rfl) ?_
      refine wS_end (by rfl) ?_
      have hq : (some (Ctl.next ((l6, wr (x3 + 1)))) : Option (Ctl ((List (Int × Int × Int)) × Int) ((List (Int × Int × Int))))) = some _ := hm
      replace hq := someE hq
      subst hq
      exact eX_next hx3 (fun hst => ⟨l6, A7, cap7, fp5, wr (x3 + 1), rfl, Fr.of hst (by kernel_rfl), F29, F30, F31, F32, F33, G11, D23, D24, hB, hZ⟩)
    ·have hm := condF hb2 hm
     refine cW_exit ?_
     refine eX_then_exit ?_
     have hq : (some (Ctl.out l5) : Option (Ctl ((List (Int × Int × Int)) × Int) ((List (Int × Int × Int))))) = some _ := hm
     replace hq := someE hq
     subst hq
     refine eX_outX hx3 (fun hr5 => ?_)
     replace hr5 := hr5.symm
     subst hr5
     refine eX_block_hit ?_
     exact eX_J (fun hst => ⟨l5, A6, cap6, fp4, rfl, Fr.of hst (by kernel_rfl), F10, F11, F12, F13, F14, G5, D6, D7, hB, hZ⟩)
   ·rintro a' w14 ⟨l4, A5, cap5, fp3, hJ, hF6, F34, F35, F36, F37, F38, G12, D25, D26, hB, hZ⟩
    subst hJ
    refine Fr.goX hF6 (by kernel_rfl) ?_
    refine eX_block ?_
    refine eX_then ?_
    refine cW_region ?_
    refine wS_pure 2 [(32, .int .i64 (wr (x1 + 1))), (63, .int .i64 (wr (x1 + 1)))] (by kernel_rfl) ?_
    refine wS_end (by rfl) ?_
    have hq : (some (Ctl.next ((l4, wr (x1 + 1)))) : Option (Ctl ((List (Int × Int × Int)) × Int) ((List (Int × Int × Int))))) = some _ := hm
    replace hq := someE hq
    subst hq
    exact eX_next hx1 (fun hst => ⟨l4, A5, cap5, fp3, wr (x1 + 1), rfl, Fr.of hst (by kernel_rfl), F34, F35, F36, F37, F38, G12, D25, D26, hB, hZ⟩)
  ·have hm := condF hb1 hm
   refine cW_exit ?_
   refine eX_then_exit ?_
   have hq : (some (Ctl.out l3) : Option (Ctl ((List (Int × Int × Int)) × Int) ((List (Int × Int × Int))))) = some _ := hm
   replace hq := someE hq
   subst hq
   refine eX_outX hx1 (fun hr6 => ?_)
   replace hr6 := hr6.symm
   subst hr6
   refine eX_block_hit ?_
   exact eX_J (fun hst => ⟨l3, A3, cap3, fp2, rfl, Fr.of hst (by kernel_rfl), F4, F5, F6, F7, F8, G4, D4, D5, hB, hZ⟩)
 ·rintro a' w15 ⟨l1, A1, cap1, fp1, hJ, hF7, F39, F40, F41, F42, F43, G13, D27, D28, hB, hZ⟩
  subst hJ
  refine Fr.goX hF7 (by kernel_rfl) ?_
  refine eX_then ?_
  refine cW_seq ?_
  refine cW_seq ?_
  refine cW_region ?_
  refine wS_pure 1 [(64, .int .i64 (0))] (by kernel_rfl) ?_
  refine wS_end (by rfl) ?_
  refine eX_then ?_
  obtain ⟨r4, hr7, hm⟩ := bindE hm
  have hm4 := hm
  refine cW_cut (fun a' w' => ∃ l9 : List ((Int × Int × Int) × Int), l9 = r4 ∧ Fr 126 [(0, .pointer (some ⟨b0, 0, none⟩)), (2, .int .i64 (p2)), (7, .map (some b2)), (8, .slice A1 (l1).length cap1)] a' ∧ SlR 1 encI w' fp0_0 A0_0 l0_0 ∧ Cl w' b0 26 [.slice A0_0 (l0_0).length cap0_0] ∧ Mp okIII ekIII kI w' b2 l9 ∧ Ow 3 encIII 67 w' fp1 A1 cap1 l1 ∧ Chg [] w0 w' ∧ w0.heap.size ≤ w'.heap.size) ?_ ?_
  ·refine cW_block ?_
   refine cW_loop _ (fun (s5 : Int × (List ((Int × Int × Int) × Int))) a' w' => ∃ x5 : Int, ∃ l10 : List ((Int × Int × Int) × Int), (x5, l10) = s5 ∧ Fr 126 [(0, .pointer (some ⟨b0, 0, none⟩)), (2, .int .i64 (p2)), (4, .pointer (some ⟨b1, 0, none⟩)), (7, .map (some b2)), (8, .slice A1 (l1).length cap1), (64, .int .i64 (x5))] a' ∧ SlR 1 encI w' fp0_0 A0_0 l0_0 ∧ Cl w' b0 26 [.slice A0_0 (l0_0).length cap0_0] ∧ Cl w' b1 29 [.int .i64 (p1_0), .int .i64 (p1_1)] ∧ Mp okIII ekIII kI w' b2 l10 ∧ Ow 3 encIII 67 w' fp1 A1 cap1 l1 ∧ Chg [] w0 w' ∧ w0.heap.size ≤ w'.heap.size) hr7 (fun hst => ⟨0, ([] : List ((Int × Int × Int) × Int)), rfl, Fr.of hst (by kernel_rfl), F39, F40, F41, F42, F43, hB, hZ⟩) ?_
   rintro _ c4 a' w16 ⟨x5, l10, rfl, hF8, F44, F45, F46, F47, F48, hB, hZ⟩ hx5
   refine Fr.goOn hF8 (by kernel_rfl) ?_
   have hm := hx5
   unfold m_impl_Maze_costs_bimplMaze_s14 at hm
   refine cW_seq ?_
   refine cW_region ?_
   refine wS_pure 1 [(65, .bool (decide (x5 < 5)))] (by kernel_rfl) ?_
   refine wS_end (by rfl) ?_
   refine eX_then ?_
   refine cW_seq ?_
   refine cW_cond (t := decide (x5 < 5)) (by kernel_rfl) (fun hb5 => ?_) (fun hb5 => ?_)
   ·have hm := condT hb5 hm
    refine cW_skip ?_
    refine eX_then ?_
    refine cW_seq ?_
    refine cW_block ?_
    refine cW_seq ?_
    refine cW_region ?_
    refine wS_pure 2 [(13, .int .i64 (x5)), (66, .int .i64 (x5))] (by kernel_rfl) ?_
    refine wS_end (by rfl) ?_
    refine eX_then ?_
    refine cW_region ?_
    refine wS_pure 1 [(67, .map (some b2))] (by kernel_rfl) ?_
    refine wS_loadA (d := 68) (T := 29) (ad := ⟨b1, 0, none⟩) (vs := [.int .i64 (p1_0), .int .i64 (p1_1)]) (by kernel_rfl) vt29 (fun i u hu => box_cells F46 0 hu (by rfl)) ?_
    refine wS_pure 2 [(70, .agg #[.int .i64 (p1_0), .int .i64 (p1_1), .int .i64 (x5)]), (69, .int .i64 (x5))] (by kernel_rfl) ?_
    obtain ⟨_, hk2, hm⟩ := bindE hm
    refine wS_mup (k := (p1_0, p1_1, x5)) (x := 0) (T := 64) (by kernel_rfl) rfl rfl mk64 mp64 F47 (mpE hk2) ?_
    intro w17 F49 hc10
    replace F44 := F44.chg hc10 (Dj.of L0_0 G2)
    replace F45 := F45.chg hc10 (dj1 (Dj.of L0 G2))
    replace F46 := F46.chg hc10 (dj1 D1)
    replace F48 := F48.chg hc10 (D28).symm
    replace hB := hB.inS hc10 (inLow G2)
    replace hZ := Nat.le_trans hZ hc10.size
    clear F47
    refine wS_end (by rfl) ?_
    refine eX_block ?_
    refine eX_then ?_
    refine cW_region ?_
    refine wS_pure 2 [(64, .int .i64 (wr (x5 + 1))), (71, .int .i64 (wr (x5 + 1)))] (by kernel_rfl) ?_
    refine wS_end (by rfl) ?_
    have hq : (some (Ctl.next ((wr (x5 + 1), mup l10 ((p1_0, p1_1, x5)) 0))) : Option (Ctl (Int × (List ((Int × Int × Int) × Int))) ((List ((Int × Int × Int) × Int))))) = some _ := hm
    replace hq := someE hq
    subst hq
    exact eX_next hx5 (fun hst => ⟨wr (x5 + 1), mup l10 ((p1_0, p1_1, x5)) 0, rfl, Fr.of hst (by kernel_rfl), F44, F45, F46, F49, F48, hB, hZ⟩)
   ·have hm := condF hb5 hm
    refine cW_exit ?_
    refine eX_then_exit ?_
    have hq : (some (Ctl.out l10) : Option (Ctl (Int × (List ((Int × Int × Int) × Int))) ((List ((Int × Int × Int) × Int))))) = some _ := hm
    replace hq := someE hq
    subst hq
    refine eX_outX hx5 (fun hr8 => ?_)
    replace hr8 := hr8.symm
    subst hr8
    refine eX_block_hit ?_
    exact eX_J (fun hst => ⟨l10, rfl, Fr.of hst (by kernel_rfl), F44, F45, F47, F48, hB, hZ⟩)
  ·rintro a' w18 ⟨l9, hJ, hF9, F50, F51, F52, F53, hB, hZ⟩
   subst hJ
   refine Fr.goX hF9 (by kernel_rfl) ?_
   refine eX_then ?_
   refine cW_seq ?_
   refine cW_seq ?_
   refine cW_region ?_
   refine wS_pure 1 [(14, .bool (true))] (by kernel_rfl) ?_
   refine wS_end (by rfl) ?_
   refine eX_then ?_
   obtain ⟨r5, hr9, hm⟩ := bindE hm
   have hm5 := hm
   refine cW_cut (fun a' w' => ∃ l11 : List ((Int × Int × Int) × Int), l11 = r5 ∧ Fr 126 [(7, .map (some b2))] a' ∧ Mp okIII ekIII kI w' b2 l11 ∧ Chg [] w0 w' ∧ w0.heap.size ≤ w'.heap.size) ?_ ?_
   ·refine cW_block ?_
    refine cW_loop _ (fun (s6 : Bool × (List ((Int × Int × Int) × Int))) a' w' => ∃ x6 : Bool, ∃ l12 : List ((Int × Int × Int) × Int), (x6, l12) = s6 ∧ Fr 126 [(0, .pointer (some ⟨b0, 0, none⟩)), (2, .int .i64 (p2)), (7, .map (some b2)), (8, .slice A1 (l1).length cap1), (14, .bool (x6))] a' ∧ SlR 1 encI w' fp0_0 A0_0 l0_0 ∧ Cl w' b0 26 [.slice A0_0 (l0_0).length cap0_0] ∧ Mp okIII ekIII kI w' b2 l12 ∧ Ow 3 encIII 67 w' fp1 A1 cap1 l1 ∧ Chg [] w0 w' ∧ w0.heap.size ≤ w'.heap.size) hr9 (fun hst => ⟨true, l9, rfl, Fr.of hst (by kernel_rfl), F50, F51, F52, F53, hB, hZ⟩) ?_
    rintro _ c5 a' w19 ⟨x6, l12, rfl, hF10, F54, F55, F56, F57, hB, hZ⟩ hx6
    refine Fr.goOn hF10 (by kernel_rfl) ?_
    have hm := hx6
    unfold m_impl_Maze_costs_bimplMaze_s23 at hm
    refine cW_seq ?_
    refine cW_seq ?_
    refine cW_region ?_
    refine wS_pure 1 [(72, .bool (x6))] (by kernel_rfl) ?_
    refine wS_end (by rfl) ?_
    refine eX_then ?_
    refine cW_cond (t := x6) (by kernel_rfl) (fun hb6 => ?_) (fun hb6 => ?_)
    ·have hm := condT hb6 hm
     refine cW_skip ?_
     refine eX_then ?_
     refine cW_block ?_
     refine cW_seq ?_
     refine cW_region ?_
     refine wS_pure 1 [(14, .bool (false))] (by kernel_rfl) ?_
     refine wS_end (by rfl) ?_
     refine eX_then ?_
     refine cW_seq ?_
     refine cW_region ?_
     refine wS_pure 3 [(75, .int .i64 (0)), (74, .int .i64 (((l1).length : Int))), (73, .slice A1 (l1).length cap1)] (by kernel_rfl) ?_
     refine wS_end (by rfl) ?_
     refine eX_then ?_
     obtain ⟨r6, hr10, hm⟩ := bindE hm
     have hm6 := hm
     refine cW_cut (fun a' w' => ∃ x7 : Bool, ∃ l13 : List ((Int × Int × Int) × Int), (x7, l13) = r6 ∧ Fr 126 [(0, .pointer (some ⟨b0, 0, none⟩)), (2, .int .i64 (p2)), (7, .map (some b2)), (8, .slice A1 (l1).length cap1), (14, .bool (x7))] a' ∧ SlR 1 encI w' fp0_0 A0_0 l0_0 ∧ Cl w' b0 26 [.slice A0_0 (l0_0).length cap0_0] ∧ Mp okIII ekIII kI w' b2 l13 ∧ Ow 3 encIII 67 w' fp1 A1 cap1 l1 ∧ Chg [] w0 w' ∧ w0.heap.size ≤ w'.heap.size) ?_ ?_
     ·refine cW_block ?_
      refine cW_loop _ (fun (s7 : Bool × Int × (List ((Int × Int × Int) × Int))) a' w' => ∃ x8 : Bool, ∃ x9 : Int, ∃ l14 : List ((Int × Int × Int) × Int), (x8, x9, l14) = s7 ∧ Fr 126 [(0, .pointer (some ⟨b0, 0, none⟩)), (2, .int .i64 (p2)), (7, .map (some b2)), (8, .slice A1 (l1).length cap1), (14, .bool (x8)), (73, .slice A1 (l1).length cap1), (74, .int .i64 (((l1).length : Int))), (75, .int .i64 (x9))] a' ∧ SlR 1 encI w' fp0_0 A0_0 l0_0 ∧ Cl w' b0 26 [.slice A0_0 (l0_0).length cap0_0] ∧ Mp okIII ekIII kI w' b2 l14 ∧ Ow 3 encIII 67 w' fp1 A1 cap1 l1 ∧ Chg [] w0 w' ∧ w0.heap.size ≤ w'.heap.size) hr10 (fun hst => ⟨false, 0, l12, rfl, Fr.of hst (by kernel_rfl), F54, F55, F56, F57, hB, hZ⟩) ?_
      rintro _ c6 a' w20 ⟨x8, x9, l14, rfl, hF11, F58, F59, F60, F61, hB, hZ⟩ hx7
      refine Fr.goOn hF11 (by kernel_rfl) ?_
      have hm := hx7
      unfold m_impl_Maze_costs_bimplMaze_s26 at hm
      refine cW_seq ?_
      refine cW_region ?_
      refine wS_pure 1 [(76, .bool (decide (x9 < (((l1).length : Int)))))] (by kernel_rfl) ?_
      refine wS_end (by rfl) ?_
      refine eX_then ?_
      refine cW_seq ?_
      refine cW_cond (t := decide (x9 < (((l1).length : Int)))) (by kernel_rfl) (fun hb7 => ?_) (fun hb7 => ?_)
      ·have hm := condT hb7 hm
       refine cW_skip ?_
       refine eX_then ?_
       refine cW_seq ?_
       refine cW_block ?_
       refine cW_seq ?_
       refine cW_region ?_
       obtain ⟨x10, hx8, hm⟩ := bindE hm
       refine wS_idx (d := 77) (T := 97) (A := A1) (n := (l1).length) (cap := cap1) (kd := .i64) (m := x9) (by kernel_rfl) sl97 ((F61.sl encIII_ok).is hx8) ?_
       refine wS_loadA (d := 78) (T := 67) (ad := (elA A1 3 (x9) 0)) (vs := [.int .i64 (x10.1), .int .i64 (x10.2.1), .int .i64 (x10.2.2)]) (by kernel_rfl) vt67 (fun i u hu => Sl.cells_at (F61.sl encIII_ok) hx8 0 hu (by rfl)) ?_
       refine wS_alloc (d := 16) (T := 67) (z := .agg #[.int .i64 (0), .int .i64 (0), .int .i64 (0)]) (by kernel_rfl) (by kernel_rfl) ?_
       intro b6 w21 G14 F62 hc11
       replace F62 : Cl w21 b6 67 [.int .i64 (0), .int .i64 (0), .int .i64 (0)] := F62
       have D29 : Dj [b2] [b6] := Dj.of F60.low (low1 G14)
       have D30 : Dj fp1 [b6] := Dj.of F61.low (low1 G14)
       replace F58 := F58.chg hc11 Dj.nil
       replace F59 := F59.chg hc11 notNil
       replace F60 := F60.chg hc11 Dj.nil
       replace F61 := F61.chg hc11 Dj.nil
       replace hB := hB.inS hc11 inNil
       replace G14 := Nat.le_trans hZ G14
       replace hZ := Nat.le_trans hZ hc11.size
       refine wS_store (T := 67) (g := b6) (o := 0) (ad := ⟨b6, 0, none⟩) (v := .agg #[.int .i64 (x10.1), .int .i64 (x10.2.1), .int .i64 (x10.2.2)]) (vs := [.int .i64 (x10.1), .int .i64 (x10.2.1), .int .i64 (x10.2.2)]) (by kernel_rfl) (by rfl) sz67 (by rfl) (by rfl) F62 (by simp only [List.length_cons, List.length_nil]; omega) ?_
       intro w22 F63 hc12
       replace F58 := F58.chg hc12 (Dj.of L0_0 (low1 G14))
       replace F59 := F59.chg hc12 (dj1 (Dj.of L0 (low1 G14)))
       replace F60 := F60.chg hc12 D29
       replace F61 := F61.chg hc12 D30
       replace hB := hB.inS hc12 (inLow (low1 G14))
       replace hZ := Nat.le_trans hZ hc12.size
       replace F63 : Cl w22 b6 67 [.int .i64 (x10.1), .int .i64 (x10.2.1), .int .i64 (x10.2.2)] := F63
       clear F62
       refine wS_end (by rfl) ?_
       refine eX_then ?_
       refine cW_seq ?_
       refine cW_region ?_
       refine wS_pure 1 [(79, .int .i64 (0))] (by kernel_rfl) ?_
       refine wS_end (by rfl) ?_
       refine eX_then ?_
       obtain ⟨r7, hr11, hm⟩ := bindE hm
       have hm7 := hm
       refine cW_cut (fun a' w' => ∃ x11 : Bool, ∃ l15 : List ((Int × Int × Int) × Int), (x11, l15) = r7 ∧ Fr 126 [(0, .pointer (some ⟨b0, 0, none⟩)), (2, .int .i64 (p2)), (7, .map (some b2)), (8, .slice A1 (l1).length cap1), (14, .bool (x11)), (73, .slice A1 (l1).length cap1), (74, .int .i64 (((l1).length : Int))), (75, .int .i64 (x9))] a' ∧ SlR 1 encI w' fp0_0 A0_0 l0_0 ∧ Cl w' b0 26 [.slice A0_0 (l0_0).length cap0_0] ∧ Mp okIII ekIII kI w' b2 l15 ∧ Ow 3 encIII 67 w' fp1 A1 cap1 l1 ∧ Chg [] w0 w' ∧ w0.heap.size ≤ w'.heap.size) ?_ ?_
       ·refine cW_block ?_
        refine cW_loop _ (fun (s8 : Bool × Int × (List ((Int × Int × Int) × Int))) a' w' => ∃ x12 : Bool, ∃ x13 : Int, ∃ l16 : List ((Int × Int × Int) × Int), (x12, x13, l16) = s8 ∧ Fr 126 [(0, .pointer (some ⟨b0, 0, none⟩)), (2, .int .i64 (p2)), (7, .map (some b2)), (8, .slice A1 (l1).length cap1), (14, .bool (x12)), (16, .pointer (some ⟨b6, 0, none⟩)), (73, .slice A1 (l1).length cap1), (74, .int .i64 (((l1).length : Int))), (75, .int .i64 (x9)), (79, .int .i64 (x13))] a' ∧ SlR 1 encI w' fp0_0 A0_0 l0_0 ∧ Cl w' b0 26 [.slice A0_0 (l0_0).length cap0_0] ∧ Mp okIII ekIII kI w' b2 l16 ∧ Ow 3 encIII 67 w' fp1 A1 cap1 l1 ∧ Cl w' b6 67 [.int .i64 (x10.1), .int .i64 (x10.2.1), .int .i64 (x10.2.2)] ∧ Chg [] w0 w' ∧ w0.heap.size ≤ w'.heap.size) hr11 (fun hst => ⟨x8, 0, l14, rfl, Fr.of hst (by kernel_rfl), F58, F59, F60, F61, F63, hB, hZ⟩) ?_
        rintro _ c7 a' w23 ⟨x12, x13, l16, rfl, hF12, F64, F65, F66, F67, F68, hB, hZ⟩ hx9
        refine Fr.goOn hF12 (by kernel_rfl) ?_
        have hm := hx9
        unfold m_impl_Maze_costs_bimplMaze_s27 at hm
        refine cW_seq ?_
        refine cW_region ?_
        refine wS_pure 1 [(80, .bool (decide (x13 < 4)))] (by kernel_rfl) ?_
        refine wS_end (by rfl) ?_
        refine eX_then ?_
        refine cW_seq ?_
        refine cW_cond (t := decide (x13 < 4)) (by kernel_rfl) (fun hb8 => ?_) (fun hb8 => ?_)
        ·have hm := condT hb8 hm
         refine cW_skip ?_
         refine eX_then ?_
         refine cW_seq ?_
         refine cW_block ?_
         refine cW_seq ?_
         refine cW_region ?_
         refine wS_pure 2 [(17, .int .i64 (x13)), (81, .int .i64 (x13))] (by kernel_rfl) ?_
         refine wS_end (by rfl) ?_
         refine eX_then ?_
         refine cW_seq ?_
         refine cW_region ?_
         refine wS_pure 1 [(83, .pointer (some ⟨b0, 0, none⟩))] (by kernel_rfl) ?_
         refine wS_loadA (d := 84) (T := 67) (ad := ⟨b6, 0, none⟩) (vs := [.int .i64 (x10.1), .int .i64 (x10.2.1), .int .i64 (x10.2.2)]) (by kernel_rfl) vt67 (fun i u hu => box_cells F68 0 hu (by rfl)) ?_
         refine wS_pure 2 [(86, .int .i64 (p2)), (85, .int .i64 (x13))] (by kernel_rfl) ?_
         obtain ⟨y2, hy2, hm⟩ := bindE hm
         refine wS_calls (d := 87) (f := 36) (vs := [.pointer (some ⟨b0, 0, none⟩), .agg #[.int .i64 (x10.1), .int .i64 (x10.2.1), .int .i64 (x10.2.2)], .int .i64 (x13), .int .i64 (p2)]) (by kernel_rfl) ent36 (c_impl_Maze_after_bimplMaze hy2 F64 F65) ?_
         rintro _ w24 ⟨rfl, hc13⟩
         replace F64 := F64.chg hc13 Dj.nil
         replace F65 := F65.chg hc13 notNil
         replace F66 := F66.chg hc13 Dj.nil
         replace F67 := F67.chg hc13 Dj.nil
         replace F68 := F68.chg hc13 notNil
         replace hB := hB.inS hc13 inNil
         replace hZ := Nat.le_trans hZ hc13.size
         refine ⟨.tuple #[.agg #[.int .i64 (y2.1.1), .int .i64 (y2.1.2.1), .int .i64 (y2.1.2.2)], .int .i64 (y2.2.1), .bool (y2.2.2)], rfl, ?_⟩
         refine wS_pure 4 [(90, .bool (y2.2.2)), (89, .int .i64 (y2.2.1)), (88, .agg #[.int .i64 (y2.1.1), .int .i64 (y2.1.2.1), .int .i64 (y2.1.2.2)]), (82, .tuple #[.agg #[.int .i64 (y2.1.1), .int .i64 (y2.1.2.1), .int .i64 (y2.1.2.2)], .int .i64 (y2.2.1), .bool (y2.2.2)])] (by kernel_rfl) ?_
         refine wS_alloc (d := 18) (T := 67) (z := .agg #[.int .i64 (0), .int .i64 (0), .int .i64 (0)]) (by kernel_rfl) (by kernel_rfl) ?_
         intro b7 w25 G15 F69 hc14
         replace F69 : Cl w25 b7 67 [.int .i64 (0), .int .i64 (0), .int .i64 (0)] := F69
         have D31 : Dj [b2] [b7] := Dj.of F66.low (low1 G15)
         have D32 : Dj fp1 [b7] := Dj.of F67.low (low1 G15)
         have D33 : Dj [b6] [b7] := Dj.of (lt1 F68.lt) (low1 G15)
         replace F64 := F64.chg hc14 Dj.nil
         replace F65 := F65.chg hc14 notNil
         replace F66 := F66.chg hc14 Dj.nil
         replace F67 := F67.chg hc14 Dj.nil
         replace F68 := F68.chg hc14 notNil
         replace hB := hB.inS hc14 inNil
         replace G15 := Nat.le_trans hZ G15
         replace hZ := Nat.le_trans hZ hc14.size
         refine wS_store (T := 67) (g := b7) (o := 0) (ad := ⟨b7, 0, none⟩) (v := .agg #[.int .i64 (y2.1.1), .int .i64 (y2.1.2.1), .int .i64 (y2.1.2.2)]) (vs := [.int .i64 (y2.1.1), .int .i64 (y2.1.2.1), .int .i64 (y2.1.2.2)]) (by kernel_rfl) (by rfl) sz67 (by rfl) (by rfl) F69 (by simp only [List.length_cons, List.length_nil]; omega) ?_
         intro w26 F70 hc15
         replace F64 := F64.chg hc15 (Dj.of L0_0 (low1 G15))
         replace F65 := F65.chg hc15 (dj1 (Dj.of L0 (low1 G15)))
         replace F66 := F66.chg hc15 D31
         replace F67 := F67.chg hc15 D32
         replace F68 := F68.chg hc15 (dj1 D33)
         replace hB := hB.inS hc15 (inLow (low1 G15))
         replace hZ := Nat.le_trans hZ hc15.size
         replace F70 : Cl w26 b7 67 [.int .i64 (y2.1.1), .int .i64 (y2.1.2.1), .int .i64 (y2.1.2.2)] := F70
         clear F69
         refine wS_pure 2 [(20, .bool (y2.2.2)), (19, .int .i64 (y2.2.1))] (by kernel_rfl) ?_
         refine wS_end (by rfl) ?_
         refine eX_then ?_
         refine cW_prune [(0, .pointer (some ⟨b0, 0, none⟩)), (2, .int .i64 (p2)), (7, .map (some b2)), (8, .slice A1 (l1).length cap1), (14, .bool (x12)), (16, .pointer (some ⟨b6, 0, none⟩)), (18, .pointer (some ⟨b7, 0, none⟩)), (19, .int .i64 (y2.2.1)), (20, .bool (y2.2.2)), (73, .slice A1 (l1).length cap1), (74, .int .i64 (((l1).length : Int))), (75, .int .i64 (x9)), (79, .int .i64 (x13))] (by kernel_rfl) (by kernel_rfl) (fun a1 => ?_)
         refine cW_seq ?_
         refine cW_region ?_
         refine wS_pure 1 [(92, .map (some b2))] (by kernel_rfl) ?_
         refine wS_loadA (d := 93) (T := 67) (ad := ⟨b7, 0, none⟩) (vs := [.int .i64 (y2.1.1), .int .i64 (y2.1.2.1), .int .i64 (y2.1.2.2)]) (by kernel_rfl) vt67 (fun i u hu => box_cells F70 0 hu (by rfl)) ?_
         obtain ⟨_, hk3, hm⟩ := bindE hm
         refine wS_lookOk (k := (y2.1.1, y2.1.2.1, y2.1.2.2)) (d := 94) (T := 64) (by kernel_rfl) rfl mk64 mp64 F66 (mpE hk3) ?_
         refine wS_pure 5 [(22, .bool ((mget l16 ((y2.1.1, y2.1.2.1, y2.1.2.2))).isSome)), (21, .int .i64 ((mget l16 ((y2.1.1, y2.1.2.1, y2.1.2.2))).getD 0)), (96, .bool ((mget l16 ((y2.1.1, y2.1.2.1, y2.1.2.2))).isSome)), (95, .int .i64 ((mget l16 ((y2.1.1, y2.1.2.1, y2.1.2.2))).getD 0)), (91, .tuple #[.int .i64 ((mget l16 ((y2.1.1, y2.1.2.1, y2.1.2.2))).getD 0), .bool ((mget l16 ((y2.1.1, y2.1.2.1, y2.1.2.2))).isSome)])] (by kernel_rfl) ?_
         refine wS_end (by rfl) ?_
         refine eX_then ?_
         refine cW_seq ?_
         refine cW_seq ?_
         refine cW_region ?_
         refine wS_pure 3 [(99, .bool (!y2.2.2)), (98, .bool (!y2.2.2)), (97, .bool (y2.2.2))] (by kernel_rfl) ?_
         refine wS_bool (!y2.2.2) (fun hb9 => ?_) (fun hb9 => ?_)
         ·have hm := condT hb9 hm
          rewrite [hb9]
          refine wS_pure 3 [(102, .bool (true)), (101, undef), (100, undef)] (by kernel_rfl) ?_
          refine wS_end (by rfl) ?_
          refine eX_then ?_
          refine cW_prune [(0, .pointer (some ⟨b0, 0, none⟩)), (2, .int .i64 (p2)), (7, .map (some b2)), (8, .slice A1 (l1).length cap1), (14, .bool (x12)), (16, .pointer (some ⟨b6, 0, none⟩)), (19, .int .i64 (y2.2.1)), (21, .int .i64 ((mget l16 ((y2.1.1, y2.1.2.1, y2.1.2.2))).getD 0)), (73, .slice A1 (l1).length cap1), (74, .int .i64 (((l1).length : Int))), (75, .int .i64 (x9)), (79, .int .i64 (x13)), (102, .bool (true))] (by kernel_rfl) (by kernel_rfl) (fun a2 => ?_)
          refine cW_cond_t (by kernel_rfl) ?_
          refine cW_exit ?_
          refine eX_then_exit ?_
          refine eX_block_hit ?_
          refine eX_then ?_
          refine cW_region ?_
          refine wS_pure 2 [(79, .int .i64 (wr (x13 + 1))), (123, .int .i64 (wr (x13 + 1)))] (by kernel_rfl) ?_
          refine wS_end (by rfl) ?_
          have hq : (some (Ctl.next ((x12, wr (x13 + 1), l16))) : Option (Ctl (Bool × Int × (List ((Int × Int × Int) × Int))) (Bool × (List ((Int × Int × Int) × Int))))) = some _ := hm
          replace hq := someE hq
          subst hq
          exact eX_next hx9 (fun hst => ⟨x12, wr (x13 + 1), l16, rfl, Fr.of hst (by kernel_rfl), F64, F65, F66, F67, F68, hB, hZ⟩)
         ·have hm := condF hb9 hm
          rewrite [hb9]
          refine wS_pure 3 [(102, .bool (!((mget l16 ((y2.1.1, y2.1.2.1, y2.1.2.2))).isSome))), (101, .bool (!((mget l16 ((y2.1.1, y2.1.2.1, y2.1.2.2))).isSome))), (100, .bool ((mget l16 ((y2.1.1, y2.1.2.1, y2.1.2.2))).isSome))] (by kernel_rfl) ?_
          refine wS_end (by rfl) ?_
          refine eX_then ?_
          refine cW_prune [(0, .pointer (some ⟨b0, 0, none⟩)), (2, .int .i64 (p2)), (7, .map (some b2)), (8, .slice A1 (l1).length cap1), (14, .bool (x12)), (16, .pointer (some ⟨b6, 0, none⟩)), (19, .int .i64 (y2.2.1)), (21, .int .i64 ((mget l16 ((y2.1.1, y2.1.2.1, y2.1.2.2))).getD 0)), (73, .slice A1 (l1).length cap1), (74, .int .i64 (((l1).length : Int))), (75, .int .i64 (x9)), (79, .int .i64 (x13)), (102, .bool (!((mget l16 ((y2.1.1, y2.1.2.1, y2.1.2.2))).isSome)))] (by kernel_rfl) (by kernel_rfl) (fun a3 => ?_)
          refine cW_cond (t := !((mget l16 ((y2.1.1, y2.1.2.1, y2.1.2.2))).isSome)) (by kernel_rfl) (fun hb10 => ?_) (fun hb10 => ?_)
          ·have hm := condT hb10 hm
           refine cW_exit ?_
           refine eX_then_exit ?_
           refine eX_block_hit ?_
           refine eX_then ?_
           refine cW_region ?_
           refine wS_pure 2 [(79, .int .i64 (wr (x13 + 1))), (123, .int .i64 (wr (x13 + 1)))] (by kernel_rfl) ?_
           refine wS_end (by rfl) ?_
           have hq : (some (Ctl.next ((x12, wr (x13 + 1), l16))) : Option (Ctl (Bool × Int × (List ((Int × Int × Int) × Int))) (Bool × (List ((Int × Int × Int) × Int))))) = some _ := hm
           replace hq := someE hq
           subst hq
           exact eX_next hx9 (fun hst => ⟨x12, wr (x13 + 1), l16, rfl, Fr.of hst (by kernel_rfl), F64, F65, F66, F67, F68, hB, hZ⟩)
          ·have hm := condF hb10 hm
           refine cW_skip ?_
           refine eX_then ?_
           obtain ⟨s9, hs2, hm⟩ := bindE hm
           refine cW_cut (fun a' w' => ∃ x14 : Bool, ∃ l17 : List ((Int × Int × Int) × Int), (x14, l17) = s9 ∧ Fr 126 [(0, .pointer (some ⟨b0, 0, none⟩)), (2, .int .i64 (p2)), (7, .map (some b2)), (8, .slice A1 (l1).length cap1), (14, .bool (x14)), (16, .pointer (some ⟨b6, 0, none⟩)), (73, .slice A1 (l1).length cap1), (74, .int .i64 (((l1).length : Int))), (75, .int .i64 (x9)), (79, .int .i64 (x13))] a' ∧ SlR 1 encI w' fp0_0 A0_0 l0_0 ∧ Cl w' b0 26 [.slice A0_0 (l0_0).length cap0_0] ∧ Mp okIII ekIII kI w' b2 l17 ∧ Ow 3 encIII 67 w' fp1 A1 cap1 l1 ∧ Cl w' b6 67 [.int .i64 (x10.1), .int .i64 (x10.2.1), .int .i64 (x10.2.2)] ∧ Chg [] w0 w' ∧ w0.heap.size ≤ w'.heap.size) ?_ ?_
           ·have hm := hs2
            refine cW_seq ?_
            refine cW_region ?_
            refine wS_pure 1 [(104, .map (some b2))] (by kernel_rfl) ?_
            refine wS_loadA (d := 105) (T := 67) (ad := ⟨b6, 0, none⟩) (vs := [.int .i64 (x10.1), .int .i64 (x10.2.1), .int .i64 (x10.2.2)]) (by kernel_rfl) vt67 (fun i u hu => box_cells F68 0 hu (by rfl)) ?_
            obtain ⟨_, hk4, hm⟩ := bindE hm
            refine wS_lookOk (k := (x10.1, x10.2.1, x10.2.2)) (d := 106) (T := 64) (by kernel_rfl) rfl mk64 mp64 F66 (mpE hk4) ?_
            refine wS_pure 5 [(24, .bool ((mget l16 ((x10.1, x10.2.1, x10.2.2))).isSome)), (23, .int .i64 ((mget l16 ((x10.1, x10.2.1, x10.2.2))).getD 0)), (108, .bool ((mget l16 ((x10.1, x10.2.1, x10.2.2))).isSome)), (107, .int .i64 ((mget l16 ((x10.1, x10.2.1, x10.2.2))).getD 0)), (103, .tuple #[.int .i64 ((mget l16 ((x10.1, x10.2.1, x10.2.2))).getD 0), .bool ((mget l16 ((x10.1, x10.2.1, x10.2.2))).isSome)])] (by kernel_rfl) ?_
            refine wS_end (by rfl) ?_
            refine eX_then ?_
            refine cW_seq ?_
            refine cW_region ?_
            refine wS_pure 3 [(111, .bool (!((mget l16 ((x10.1, x10.2.1, x10.2.2))).isSome))), (110, .bool (!((mget l16 ((x10.1, x10.2.1, x10.2.2))).isSome))), (109, .bool ((mget l16 ((x10.1, x10.2.1, x10.2.2))).isSome))] (by kernel_rfl) ?_
            refine wS_bool (!((mget l16 ((x10.1, x10.2.1, x10.2.2))).isSome)) (fun hb11 => ?_) (fun hb11 => ?_)
            ·have hm := condT hb11 hm
             rewrite [hb11]
             refine wS_pure 6 [(117, .bool (true)), (116, undef), (115, undef), (114, undef), (113, undef), (112, undef)] (by kernel_rfl) ?_
             refine wS_end (by rfl) ?_
             refine eX_then ?_
             refine cW_prune [(0, .pointer (some ⟨b0, 0, none⟩)), (2, .int .i64 (p2)), (7, .map (some b2)), (8, .slice A1 (l1).length cap1), (14, .bool (x12)), (16, .pointer (some ⟨b6, 0, none⟩)), (19, .int .i64 (y2.2.1)), (21, .int .i64 ((mget l16 ((y2.1.1, y2.1.2.1, y2.1.2.2))).getD 0)), (73, .slice A1 (l1).length cap1), (74, .int .i64 (((l1).length : Int))), (75, .int .i64 (x9)), (79, .int .i64 (x13)), (117, .bool (true))] (by kernel_rfl) (by kernel_rfl) (fun a4 => ?_)
             refine cW_cond_t (by kernel_rfl) ?_
             refine cW_region ?_
             refine wS_pure 1 [(118, .map (some b2))] (by kernel_rfl) ?_
             refine wS_loadA (d := 119) (T := 67) (ad := ⟨b6, 0, none⟩) (vs := [.int .i64 (x10.1), .int .i64 (x10.2.1), .int .i64 (x10.2.2)]) (by kernel_rfl) vt67 (fun i u hu => box_cells F68 0 hu (by rfl)) ?_
             refine wS_pure 3 [(122, .int .i64 (wr (y2.2.1 + ((mget l16 ((y2.1.1, y2.1.2.1, y2.1.2.2))).getD 0)))), (121, .int .i64 ((mget l16 ((y2.1.1, y2.1.2.1, y2.1.2.2))).getD 0)), (120, .int .i64 (y2.2.1))] (by kernel_rfl) ?_
             obtain ⟨_, hk5, hm⟩ := bindE hm
             refine wS_mup (k := (x10.1, x10.2.1, x10.2.2)) (x := wr (y2.2.1 + ((mget l16 ((y2.1.1, y2.1.2.1, y2.1.2.2))).getD 0))) (T := 64) (by kernel_rfl) rfl rfl mk64 mp64 F66 (mpE hk5) ?_
             intro w27 F71 hc16
             replace F64 := F64.chg hc16 (Dj.of L0_0 G2)
             replace F65 := F65.chg hc16 (dj1 (Dj.of L0 G2))
             replace F67 := F67.chg hc16 (D28).symm
             replace F68 := F68.chg hc16 (dj1 (D29).symm)
             replace F70 := F70.chg hc16 (dj1 (D31).symm)
             replace hB := hB.inS hc16 (inLow G2)
             replace hZ := Nat.le_trans hZ hc16.size
             clear F66
             refine wS_pure 1 [(14, .bool (true))] (by kernel_rfl) ?_
             refine wS_end (by rfl) ?_
             have hq : (some ((true, mup l16 ((x10.1, x10.2.1, x10.2.2)) (wr (y2.2.1 + ((mget l16 ((y2.1.1, y2.1.2.1, y2.1.2.2))).getD 0))))) : Option (Bool × (List ((Int × Int × Int) × Int)))) = some _ := hm
             replace hq := someE hq
             subst hq
             exact eX_J (fun hst => ⟨true, mup l16 ((x10.1, x10.2.1, x10.2.2)) (wr (y2.2.1 + ((mget l16 ((y2.1.1, y2.1.2.1, y2.1.2.2))).getD 0))), rfl, Fr.of hst (by kernel_rfl), F64, F65, F71, F67, F68, hB, hZ⟩)
            ·have hm := condF hb11 hm
             rewrite [hb11]
             refine wS_pure 6 [(117, .bool (decide ((wr (y2.2.1 + ((mget l16 ((y2.1.1, y2.1.2.1, y2.1.2.2))).getD 0))) < ((mget l16 ((x10.1, x10.2.1, x10.2.2))).getD 0)))), (116, .bool (decide ((wr (y2.2.1 + ((mget l16 ((y2.1.1, y2.1.2.1, y2.1.2.2))).getD 0))) < ((mget l16 ((x10.1, x10.2.1, x10.2.2))).getD 0)))), (115, .int .i64 ((mget l16 ((x10.1, x10.2.1, x10.2.2))).getD 0)), (114, .int .i64 (wr (y2.2.1 + ((mget l16 ((y2.1.1, y2.1.2.1, y2.1.2.2))).getD 0)))), (113, .int .i64 ((mget l16 ((y2.1.1, y2.1.2.1, y2.1.2.2))).getD 0)), (112, .int .i64 (y2.2.1))] (by kernel_rfl) ?_
             refine wS_end (by rfl) ?_
             refine eX_then ?_
             refine cW_prune [(0, .pointer (some ⟨b0, 0, none⟩)), (2, .int .i64 (p2)), (7, .map (some b2)), (8, .slice A1 (l1).length cap1), (14, .bool (x12)), (16, .pointer (some ⟨b6, 0, none⟩)), (19, .int .i64 (y2.2.1)), (21, .int .i64 ((mget l16 ((y2.1.1, y2.1.2.1, y2.1.2.2))).getD 0)), (73, .slice A1 (l1).length cap1), (74, .int .i64 (((l1).length : Int))), (75, .int .i64 (x9)), (79, .int .i64 (x13)), (117, .bool (decide ((wr (y2.2.1 + ((mget l16 ((y2.1.1, y2.1.2.1, y2.1.2.2))).getD 0))) < ((mget l16 ((x10.1, x10.2.1, x10.2.2))).getD 0))))] (by kernel_rfl) (by kernel_rfl) (fun a5 => ?_)
             refine cW_cond (t := decide ((wr (y2.2.1 + ((mget l16 ((y2.1.1, y2.1.2.1, y2.1.2.2))).getD 0))) < ((mget l16 ((x10.1, x10.2.1, x10.2.2))).getD 0))) (by kernel_rfl) (fun hb12 => ?_) (fun hb12 => ?_)
             ·have hm := condT hb12 hm
              refine cW_region ?_
              refine wS_pure 1 [(118, .map (some b2))] (by kernel_rfl) ?_
              refine wS_loadA (d := 119) (T := 67) (ad := ⟨b6, 0, none⟩) (vs := [.int .i64 (x10.1), .int .i64 (x10.2.1), .int .i64 (x10.2.2)]) (by kernel_rfl) vt67 (fun i u hu => box_cells F68 0 hu (by rfl)) ?_
              refine wS_pure 3 [(122, .int .i64 (wr (y2.2.1 + ((mget l16 ((y2.1.1, y2.1.2.1, y2.1.2.2))).getD 0)))), (121, .int .i64 ((mget l16 ((y2.1.1, y2.1.2.1, y2.1.2.2))).getD 0)), (120, .int .i64 (y2.2.1))] (by kernel_rfl) ?_
              obtain ⟨_, hk6, hm⟩ := bindE hm
              refine wS_mup (k := (x10.1, x10.2.1, x10.2.2)) (x := wr (y2.2.1 + ((mget l16 ((y2.1.1, y2.1.2.1, y2.1.2.2))).getD 0))) (T := 64) (by kernel_rfl) rfl rfl mk64 mp64 F66 (mpE hk6) ?_
              intro w28 F72 hc17
              replace F64 := F64.chg hc17 (Dj.of L0_0 G2)
              replace F65 := F65.chg hc17 (dj1 (Dj.of L0 G2))
              replace F67 := F67.chg hc17 (D28).symm
              replace F68 := F68.chg hc17 (dj1 (D29).symm)
              replace F70 := F70.chg hc17 (dj1 (D31).symm)
              replace hB := hB.inS hc17 (inLow G2)
              replace hZ := Nat.le_trans hZ hc17.size
              clear F66
              refine wS_pure 1 [(14, .bool (true))] (by kernel_rfl) ?_
              refine wS_end (by rfl) ?_
              have hq : (some ((true, mup l16 ((x10.1, x10.2.1, x10.2.2)) (wr (y2.2.1 + ((mget l16 ((y2.1.1, y2.1.2.1, y2.1.2.2))).getD 0))))) : Option (Bool × (List ((Int × Int × Int) × Int)))) = some _ := hm
              replace hq := someE hq
              subst hq
              exact eX_J (fun hst => ⟨true, mup l16 ((x10.1, x10.2.1, x10.2.2)) (wr (y2.2.1 + ((mget l16 ((y2.1.1, y2.1.2.1, y2.1.2.2))).getD 0))), rfl, Fr.of hst (by kernel_rfl), F64, F65, F72, F67, F68, hB, hZ⟩)
             ·have hm := condF hb12 hm
              refine cW_skip ?_
              have hq : (some ((x12, l16)) : Option (Bool × (List ((Int × Int × Int) × Int)))) = some _ := hm
              replace hq := someE hq
              subst hq
              exact eX_J (fun hst => ⟨x12, l16, rfl, Fr.of hst (by kernel_rfl), F64, F65, F66, F67, F68, hB, hZ⟩)
           ·rintro a' w29 ⟨x14, l17, hJ, hF13, F73, F74, F75, F76, F77, hB, hZ⟩
            subst hJ
            refine Fr.goX hF13 (by kernel_rfl) ?_
            refine eX_block ?_
            refine eX_then ?_
            refine cW_region ?_
            refine wS_pure 2 [(79, .int .i64 (wr (x13 + 1))), (123, .int .i64 (wr (x13 + 1)))] (by kernel_rfl) ?_
            refine wS_end (by rfl) ?_
            have hq : (some (Ctl.next ((x14, wr (x13 + 1), l17))) : Option (Ctl (Bool × Int × (List ((Int × Int × Int) × Int))) (Bool × (List ((Int × Int × Int) × Int))))) = some _ := hm
            replace hq := someE hq
            subst hq
            exact eX_next hx9 (fun hst => ⟨x14, wr (x13 + 1), l17, rfl, Fr.of hst (by kernel_rfl), F73, F74, F75, F76, F77, hB, hZ⟩)
        ·have hm := condF hb8 hm
         refine cW_exit ?_
         refine eX_then_exit ?_
         have hq : (some (Ctl.out ((x12, l16))) : Option (Ctl (Bool × Int × (List ((Int × Int × Int) × Int))) (Bool × (List ((Int × Int × Int) × Int))))) = some _ := hm
         replace hq := someE hq
         subst hq
         refine eX_outX hx9 (fun hr12 => ?_)
         replace hr12 := hr12.symm
         subst hr12
         refine eX_block_hit ?_
         exact eX_J (fun hst => ⟨x12, l16, rfl, Fr.of hst (by kernel_rfl), F64, F65, F66, F67, hB, hZ⟩)
       ·rintro a' w30 ⟨x11, l15, hJ, hF14, F78, F79, F80, F81, hB, hZ⟩
        subst hJ
        refine Fr.goX hF14 (by kernel_rfl) ?_
        refine eX_block ?_
        refine eX_then ?_
        refine cW_region ?_
        refine wS_pure 2 [(75, .int .i64 (wr (x9 + 1))), (124, .int .i64 (wr (x9 + 1)))] (by kernel_rfl) ?_
        refine wS_end (by rfl) ?_
        have hq : (some (Ctl.next ((x11, wr (x9 + 1), l15))) : Option (Ctl (Bool × Int × (List ((Int × Int × Int) × Int))) (Bool × (List ((Int × Int × Int) × Int))))) = some _ := hm
        replace hq := someE hq
        subst hq
        exact eX_next hx7 (fun hst => ⟨x11, wr (x9 + 1), l15, rfl, Fr.of hst (by kernel_rfl), F78, F79, F80, F81, hB, hZ⟩)
      ·have hm := condF hb7 hm
       refine cW_exit ?_
       refine eX_then_exit ?_
       have hq : (some (Ctl.out ((x8, l14))) : Option (Ctl (Bool × Int × (List ((Int × Int × Int) × Int))) (Bool × (List ((Int × Int × Int) × Int))))) = some _ := hm
       replace hq := someE hq
       subst hq
       refine eX_outX hx7 (fun hr13 => ?_)
       replace hr13 := hr13.symm
       subst hr13
       refine eX_block_hit ?_
       exact eX_J (fun hst => ⟨x8, l14, rfl, Fr.of hst (by kernel_rfl), F58, F59, F60, F61, hB, hZ⟩)
     ·rintro a' w31 ⟨x7, l13, hJ, hF15, F82, F83, F84, F85, hB, hZ⟩
      subst hJ
      refine Fr.goX hF15 (by kernel_rfl) ?_
      refine eX_block ?_
      have hq : (some (Ctl.next ((x7, l13))) : Option (Ctl (Bool × (List ((Int × Int × Int) × Int))) ((List ((Int × Int × Int) × Int))))) = some _ := hm
      replace hq := someE hq
      subst hq
      exact eX_next hx6 (fun hst => ⟨x7, l13, rfl, Fr.of hst (by kernel_rfl), F82, F83, F84, F85, hB, hZ⟩)
    ·have hm := condF hb6 hm
     refine cW_exit ?_
     refine eX_then_exit ?_
     have hq : (some (Ctl.out l12) : Option (Ctl (Bool × (List ((Int × Int × Int) × Int))) ((List ((Int × Int × Int) × Int))))) = some _ := hm
     replace hq := someE hq
     subst hq
     refine eX_outX hx6 (fun hr14 => ?_)
     replace hr14 := hr14.symm
     subst hr14
     refine eX_block_hit ?_
     exact eX_J (fun hst => ⟨l12, rfl, Fr.of hst (by kernel_rfl), F56, hB, hZ⟩)
   ·rintro a' w32 ⟨l11, hJ, hF16, F86, hB, hZ⟩
    subst hJ
    refine Fr.goX hF16 (by kernel_rfl) ?_
    refine eX_then ?_
    refine cW_seq ?_
    refine cW_region ?_
    refine wS_pure 2 [(6, .map (some b2)), (125, .map (some b2))] (by kernel_rfl) ?_
    refine wS_end (by rfl) ?_
    refine eX_then ?_
    refine cW_ret ?_
    have hq : (some l11 : Option ((List ((Int × Int × Int) × Int)))) = some _ := hm
    replace hq := someE hq
    subst hq
    refine eX_ret (vs := [.map (some b2)]) [.tmp 6] (by rfl) ⟨by (show lkE _ _ _ = _); kernel_rfl, trivial⟩ ?_
    exact ⟨b2, rfl, F86, G2, hB⟩

end Go.Proofs.Ytcknpoeannbpbaa
