/- Printed models: what each function reckons, in plain Lean. -/
import Derived.Test.YtcknpoeannbpbaaGte
set_option linter.unusedSimpArgs false
set_option linter.unusedVariables false
namespace Go.Proofs.Ytcknpoeannbpbaa
open Go.RowKit

def m_laws_r8Long (l0 : List (Int)) (l1 : List (Int)) : Option ((Bool)) :=
  (bif decide ((((l0).length : Int)) > 48) then some true else some (decide ((((l1).length : Int)) > 48)))

def m_spec_l00From (l0 : List (Int)) : Option ((Int × Int)) :=
  some ((0, 0))

def m_spec_l00Src_next_bspecl00Src (l0_0 : List (Int)) (q0_1 : Int) (q0_2 : Int) : Option ((Int) × (Int) × (Int)) :=
  Option.bind ((bif decide (q0_1 < (((l0_0).length : Int))) then Option.bind (geti l0_0 q0_1) fun x1 => some (wr x1) else some 0)) fun (s1 : Int) => (fun (x2 : Int) => (bif decide ((wr (q0_1 + 1)) ≤ (((l0_0).length : Int))) then some ((x2, wr (q0_1 + 1), wu ((wu ((wu (q0_2 * 6364136223846793005)) + (wu x2))) + 1442695040888963407))) else some ((wr (andU (shrU (wu ((wu ((wu (q0_2 * 6364136223846793005)) + (wu x2))) + 1442695040888963407)) 40) 255), wr (q0_1 + 1), wu ((wu ((wu (q0_2 * 6364136223846793005)) + (wu x2))) + 1442695040888963407))))) s1

def m_spec_l00Src_pick_bspecl00Src (l0_0 : List (Int)) (q0_1 : Int) (q0_2 : Int) (p1 : Int) : Option ((Int) × (Int) × (Int)) :=
  (bif decide (p1 ≤ 1) then some ((0, q0_1, q0_2)) else Option.bind (m_spec_l00Src_next_bspecl00Src l0_0 q0_1 q0_2) fun y1 => Option.bind ((bif decide (p1 > 200) then Option.bind (m_spec_l00Src_next_bspecl00Src l0_0 y1.2.1 y1.2.2) fun y2 => some ((wr ((wr (y1.1 * 256)) + y2.1), y2.2.1, y2.2.2)) else some ((y1.1, y1.2.1, y1.2.2)))) fun (s1 : Int × Int × Int) => match s1 with | (x1, x2, x3) => Option.bind (nzC p1) fun u1 => some ((Int.tmod x1 p1, x2, x3)))

def m_spec_l00Src_one_bspecl00Src (l0_0 : List (Int)) (q0_1 : Int) (q0_2 : Int) (p1 : Int) : Option ((Bool) × (Int) × (Int)) :=
  Option.bind (m_spec_l00Src_pick_bspecl00Src l0_0 q0_1 q0_2 p1) fun y1 => some ((y1.1 == 0, y1.2.1, y1.2.2))

noncomputable def m_spec_R8Maze_s4 (l0 : List (Int)) (y1 : (Int) × (Int) × (Int)) (y2 : (Bool) × (Int) × (Int)) (x1 : Int) (s1 : (List (Int)) × Int × Int × Int) : Option (Ctl ((List (Int)) × Int × Int × Int) ((List (Int)) × Int × Int)) :=
  match s1 with | (l1, x2, x3, x4) => (bif decide (x2 < (wr (1 + y1.1))) then Option.bind (Option.bind ((bif !y2.1 then Option.bind (m_spec_l00Src_pick_bspecl00Src l0 x3 x4 9) fun y3 => some ((wr (1 + y3.1), y3.2.1, y3.2.2)) else some ((1, x3, x4)))) fun (s2 : Int × Int × Int) => match s2 with | (x5, x6, x7) => Option.bind (Option.bind (m_spec_l00Src_one_bspecl00Src l0 x6 x7 4) fun y4 => (bif y4.1 then (bif decide ((wr (x2 + x1)) > 0) then some ((0, y4.2.1, y4.2.2)) else some ((x5, y4.2.1, y4.2.2))) else some ((x5, y4.2.1, y4.2.2)))) fun (s3 : Int × Int × Int) => match s3 with | (x8, x9, x10) => Option.bind (apC l1 (([x8] : List (Int)))) fun _ => some ((l1 ++ (([x8] : List (Int))), x9, x10))) fun (s4 : (List (Int)) × Int × Int) => match s4 with | (l2, x11, x12) => some (Ctl.next ((l2, wr (x2 + 1), x11, x12))) else some (Ctl.out ((l1, x3, x4))))
noncomputable def m_spec_R8Maze_s3 (l0 : List (Int)) (y1 : (Int) × (Int) × (Int)) (y5 : (Int) × (Int) × (Int)) (y2 : (Bool) × (Int) × (Int)) (s5 : Int × Int × Int × (List (List (Int)))) : Option (Ctl (Int × Int × Int × (List (List (Int)))) ((List (List (Int))))) :=
  match s5 with | (x1, x13, x14, l3) => (bif decide (x1 < (wr (1 + y5.1))) then Option.bind (loopM (m_spec_R8Maze_s4 l0 y1 y2 x1) ((([] : List (Int)), 0, x13, x14))) fun (r1 : (List (Int)) × Int × Int) => match r1 with | (l4, x15, x16) => Option.bind (apC l3 (([l4] : List (List (Int))))) fun _ => some (Ctl.next ((wr (x1 + 1), x15, x16, l3 ++ (([l4] : List (List (Int))))))) else some (Ctl.out l3))
noncomputable def m_spec_R8Maze (l0 : List (Int)) : Option (((List (List (Int))))) :=
  Option.bind (m_spec_l00From l0) fun y6 => Option.bind (m_spec_l00Src_pick_bspecl00Src l0 y6.1 y6.2 5) fun y1 => Option.bind (m_spec_l00Src_pick_bspecl00Src l0 y1.2.1 y1.2.2 5) fun y5 => Option.bind (m_spec_l00Src_one_bspecl00Src l0 y5.2.1 y5.2.2 2) fun y2 => Option.bind (loopM (m_spec_R8Maze_s3 l0 y1 y5 y2) ((0, y2.2.1, y2.2.2, ([] : List (List (Int)))))) fun (r2 : (List (List (Int)))) => (fun (l5 : List (List (Int))) => some ((l5))) r2

def m_spec_l00In (p0 : Int) (p1 : Int) (p2 : Int) : Option ((Bool)) :=
  (bif decide (p0 ≥ p1) then some (decide (p0 ≤ p2)) else some false)

def m_spec_l04Open_bimplMaze (l0_0 : List (List (Int))) (p1_0 : Int) (p1_1 : Int) : Option ((Bool)) :=
  Option.bind (m_spec_l00In p1_1 0 (wr ((((l0_0).length : Int)) - 1))) fun y1 => (bif y1 then Option.bind (geti l0_0 0) fun x1 => Option.bind (m_spec_l00In p1_0 0 (wr ((((x1).length : Int)) - 1))) fun y2 => (bif y2 then Option.bind (geti l0_0 p1_1) fun x2 => Option.bind (geti x2 p1_0) fun x3 => some (decide (x3 > 0)) else some false) else some false)

noncomputable def m_spec_R8Open_s1 (l0 : List (Int)) (l1_0 : List (List (Int))) (s1 : Int × Int × Int) : Option (Ctl (Int × Int × Int) (Sum (Unit) ((Int × Int)))) :=
  match s1 with | (x1, x2, x3) => (bif decide (x1 < 8) then Option.bind (geti l1_0 0) fun x4 => Option.bind (m_spec_l00Src_pick_bspecl00Src l0 x2 x3 (((x4).length : Int))) fun y1 => Option.bind (m_spec_l00Src_pick_bspecl00Src l0 y1.2.1 y1.2.2 (((l1_0).length : Int))) fun y2 => Option.bind (m_spec_l04Open_bimplMaze l1_0 y1.1 y2.1) fun y3 => (bif y3 then some (Ctl.out (Sum.inr ((y1.1, y2.1)))) else some (Ctl.next ((wr (x1 + 1), y2.2.1, y2.2.2)))) else some (Ctl.out (Sum.inl (()))))
noncomputable def m_spec_R8Open (l0 : List (Int)) (l1_0 : List (List (Int))) : Option ((Int × Int)) :=
  Option.bind (m_spec_l00From l0) fun y4 => Option.bind (loopM (m_spec_R8Open_s1 l0 l1_0) ((0, y4.1, y4.2))) fun (r1 : Sum (Unit) ((Int × Int))) => match r1 with | Sum.inl q1 => (some ((0, 0))) | Sum.inr v1 => some v1

def m_impl_in (p0 : Int) (p1 : Int) (p2 : Int) : Option ((Bool)) :=
  (bif decide (p0 ≥ p1) then some (decide (p0 ≤ p2)) else some false)

def m_impl_ValidMaze_1 (p0 : Int) : Option ((Bool)) :=
  Option.bind (m_impl_in p0 0 9) fun y1 => some (!y1)

def m_slices_IndexFunc_int64_int64_impl_ValidMaze_1_s1 (l0 : List (Int)) (s1 : Int) : Option (Ctl (Int) (Sum (Unit) ((Int)))) :=
  (fun (x1 : Int) => (bif decide (x1 < (((l0).length : Int))) then Option.bind (geti l0 x1) fun x2 => Option.bind (m_impl_ValidMaze_1 x2) fun y1 => (bif y1 then some (Ctl.out (Sum.inr x1)) else some (Ctl.next (wr (x1 + 1)))) else some (Ctl.out (Sum.inl (()))))) s1
noncomputable def m_slices_IndexFunc_int64_int64_impl_ValidMaze_1 (l0 : List (Int)) : Option ((Int)) :=
  Option.bind (loopM (m_slices_IndexFunc_int64_int64_impl_ValidMaze_1_s1 l0) 0) fun (r1 : Sum (Unit) ((Int))) => match r1 with | Sum.inl q1 => (some ((-1))) | Sum.inr v1 => some v1

noncomputable def m_slices_ContainsFunc_int64_int64_impl_ValidMaze_1 (l0 : List (Int)) : Option ((Bool)) :=
  Option.bind (m_slices_IndexFunc_int64_int64_impl_ValidMaze_1 l0) fun y1 => some (decide (y1 ≥ 0))

noncomputable def m_impl_ValidMaze_s1 (l0_0 : List (List (Int))) (s1 : Int) : Option (Ctl (Int) (Sum (Unit) ((Bool)))) :=
  (fun (x1 : Int) => (bif decide (x1 < (((l0_0).length : Int))) then Option.bind (geti l0_0 x1) fun x2 => Option.bind (geti l0_0 0) fun x3 => (bif (((x2).length : Int)) != (((x3).length : Int)) then some (Ctl.out (Sum.inr false)) else Option.bind (m_slices_ContainsFunc_int64_int64_impl_ValidMaze_1 x2) fun y1 => (bif y1 then some (Ctl.out (Sum.inr false)) else some (Ctl.next (wr (x1 + 1))))) else some (Ctl.out (Sum.inl (()))))) s1
noncomputable def m_impl_ValidMaze (l0_0 : List (List (Int))) : Option ((Bool)) :=
  Option.bind (m_impl_in (((l0_0).length : Int)) 1 12) fun y2 => (bif !y2 then some false else Option.bind (geti l0_0 0) fun x4 => Option.bind (m_impl_in (((x4).length : Int)) 1 12) fun y3 => (bif !y3 then some false else Option.bind (loopM (m_impl_ValidMaze_s1 l0_0) 0) fun (r1 : Sum (Unit) ((Bool))) => match r1 with | Sum.inl q1 => (some true) | Sum.inr v1 => some v1))

def m_impl_Maze_has_bimplMaze (l0_0 : List (List (Int))) (p1_0 : Int) (p1_1 : Int) : Option ((Bool)) :=
  Option.bind (m_impl_in p1_1 0 (wr ((((l0_0).length : Int)) - 1))) fun y1 => (bif y1 then Option.bind (geti l0_0 0) fun x1 => Option.bind (m_impl_in p1_0 0 (wr ((((x1).length : Int)) - 1))) fun y2 => some y2 else some false)

def m_impl_Maze_price_bimplMaze (l0_0 : List (List (Int))) (p1_0 : Int) (p1_1 : Int) : Option ((Int)) :=
  Option.bind (geti l0_0 p1_1) fun x1 => Option.bind (geti x1 p1_0) fun x2 => some x2

def m_impl_Maze_open_bimplMaze (l0_0 : List (List (Int))) (p1_0 : Int) (p1_1 : Int) : Option ((Bool)) :=
  Option.bind (m_impl_Maze_has_bimplMaze l0_0 p1_0 p1_1) fun y1 => (bif y1 then Option.bind (m_impl_Maze_price_bimplMaze l0_0 p1_0 p1_1) fun y2 => some (y2 != 0) else some false)

noncomputable def m_impl_IsOpen (l0_0 : List (List (Int))) (p1_0 : Int) (p1_1 : Int) : Option ((Bool)) :=
  Option.bind (m_impl_ValidMaze l0_0) fun y1 => (bif y1 then Option.bind (m_impl_Maze_open_bimplMaze l0_0 p1_0 p1_1) fun y2 => some y2 else some false)

def m_impl_size (p0 : Int) : Option ((Int)) :=
  some (if (wr (0 - p0)) > p0 then (wr (0 - p0)) else p0)

def m_impl_far (p0_0 : Int) (p0_1 : Int) (p1_0 : Int) (p1_1 : Int) : Option ((Int)) :=
  Option.bind (m_impl_size (wr (p0_0 - p1_0))) fun y1 => Option.bind (m_impl_size (wr (p0_1 - p1_1))) fun y2 => some (wr (y1 + y2))

noncomputable def m_impl_blockOk (l0_0 : List (List (Int))) (p1_0 : Int) (p1_1 : Int) (p2_0 : Int) (p2_1 : Int) : Option ((Bool)) :=
  Option.bind (m_impl_IsOpen l0_0 p1_0 p1_1) fun y1 => (bif y1 then Option.bind (m_impl_Maze_open_bimplMaze l0_0 p2_0 p2_1) fun y2 => (bif y2 then Option.bind (m_impl_far p1_0 p1_1 p2_0 p2_1) fun y3 => some (decide (y3 > 1)) else some false) else some false)

def m_impl_next (p0_0 : Int) (p0_1 : Int) (p1 : Int) : Option ((Int × Int)) :=
  (bif p1 == 0 then some ((p0_0, wr (p0_1 - 1))) else (bif p1 == 1 then some ((wr (p0_0 - 1), p0_1)) else (bif p1 == 2 then some ((wr (p0_0 + 1), p0_1)) else some ((p0_0, wr (p0_1 + 1))))))

def m_slices_Clone_impl_Point_impl_Point (l0 : List (Int × Int)) : Option ((List (Int × Int))) :=
  Option.bind (apC (([] : List (Int × Int))) l0) fun _ => some ((([] : List (Int × Int))) ++ l0)

def m_cmp_isNaN_int64 (p0 : Int) : Option ((Bool)) :=
  some (p0 != p0)

def m_cmp_Compare_int64 (p0 : Int) (p1 : Int) : Option ((Int)) :=
  Option.bind (m_cmp_isNaN_int64 p0) fun y1 => Option.bind (m_cmp_isNaN_int64 p1) fun y2 => (bif y1 then (bif y2 then some 0 else some ((-1))) else (bif y2 then some 1 else (bif decide (p0 < p1) then some ((-1)) else (bif decide (p0 > p1) then some 1 else some 0))))

def m_cmp_Or_int_s1 (l0 : List (Int)) (s1 : Int) : Option (Ctl (Int) (Sum (Unit) ((Int)))) :=
  (fun (x1 : Int) => (bif decide (x1 < (((l0).length : Int))) then Option.bind (geti l0 x1) fun x2 => (bif x2 != 0 then some (Ctl.out (Sum.inr x2)) else some (Ctl.next (wr (x1 + 1)))) else some (Ctl.out (Sum.inl (()))))) s1
noncomputable def m_cmp_Or_int (l0 : List (Int)) : Option ((Int)) :=
  Option.bind (loopM (m_cmp_Or_int_s1 l0) 0) fun (r1 : Sum (Unit) ((Int))) => match r1 with | Sum.inl q1 => (some 0) | Sum.inr v1 => some v1

noncomputable def m_impl_pointOrder (p0_0 : Int) (p0_1 : Int) (p1_0 : Int) (p1_1 : Int) : Option ((Int)) :=
  Option.bind (m_cmp_Compare_int64 p0_0 p1_0) fun y1 => Option.bind (m_cmp_Compare_int64 p0_1 p1_1) fun y2 => Option.bind (m_cmp_Or_int (([y1, y2] : List (Int)))) fun y3 => some y3

def m_slices_Compact_impl_Point_impl_Point_s4 (l0 : List (Int × Int)) (x1 : Int) (s1 : Int × Int × (List (Int × Int))) : Option (Ctl (Int × Int × (List (Int × Int))) (Int × (List (Int × Int)))) :=
  match s1 with | (x2, x3, l1) => (bif decide (x3 < (((slc l1 x1 (((l0).length : Int))).length : Int))) then Option.bind (Option.bind (geti (slc l1 x1 (((l0).length : Int))) x3) fun x4 => Option.bind (geti (slc l1 x1 (((l0).length : Int))) (wr (x3 - 1))) fun x5 => (bif !(x4.1 == x5.1 && x4.2 == x5.2) then Option.bind (geti (slc l1 x1 (((l0).length : Int))) x3) fun x6 => Option.bind (geti l1 x2) fun x7 => some ((wr (x2 + 1), l1.set (Int.toNat x2) ((x6.1, x6.2)))) else some ((x2, l1)))) fun (s2 : Int × (List (Int × Int))) => match s2 with | (x8, l2) => some (Ctl.next ((x8, wr (x3 + 1), l2))) else some (Ctl.out ((x2, l1))))
noncomputable def m_slices_Compact_impl_Point_impl_Point_s3 (l0 : List (Int × Int)) (s3 : Int) : Option (Ctl (Int) (Sum (Unit) ((List (Int × Int))))) :=
  (fun (x1 : Int) => (bif decide (x1 < (((l0).length : Int))) then Option.bind (geti l0 x1) fun x9 => Option.bind (geti l0 (wr (x1 - 1))) fun x10 => (bif x9.1 == x10.1 && x9.2 == x10.2 then Option.bind (slci l0 x1 (((l0).length : Int))) fun _ => Option.bind (loopM (m_slices_Compact_impl_Point_impl_Point_s4 l0 x1) ((x1, 1, l0))) fun (r1 : Int × (List (Int × Int))) => match r1 with | (x11, l3) => Option.bind (slci l3 x11 (((l3).length : Int))) fun _ => Option.bind (slci (clr ((0, 0) : Int × Int) l3 x11) 0 x11) fun _ => some (Ctl.out (Sum.inr ((clr ((0, 0) : Int × Int) l3 x11).take (Int.toNat x11)))) else some (Ctl.next (wr (x1 + 1)))) else some (Ctl.out (Sum.inl (()))))) s3
noncomputable def m_slices_Compact_impl_Point_impl_Point (l0 : List (Int × Int)) : Option ((List (Int × Int))) :=
  (bif decide ((((l0).length : Int)) < 2) then some l0 else Option.bind (loopM (m_slices_Compact_impl_Point_impl_Point_s3 l0) 1) fun (r2 : Sum (Unit) ((List (Int × Int)))) => match r2 with | Sum.inl q1 => (some l0) | Sum.inr v1 => some v1)

noncomputable def m_impl_sorted (l0 : List (Int × Int)) : Option ((List (Int × Int))) :=
  Option.bind (m_slices_Clone_impl_Point_impl_Point l0) fun y1 => Option.bind (m_slices_SortFunc_impl_Point_impl_Point_impl_pointOrder y1) fun y2 => Option.bind (m_slices_Compact_impl_Point_impl_Point y2) fun y3 => some y3

noncomputable def m_impl_pointsOf_s1  (s1 : (List (Int × Int))) (p1 : (Int × Int) × Bool) : Option (Ctl ((List (Int × Int))) (Unit)) :=
  (fun (l1 : List (Int × Int)) => Option.bind (apC l1 (([(p1.1.1, p1.1.2)] : List (Int × Int)))) fun _ => some (Ctl.next (l1 ++ (([(p1.1.1, p1.1.2)] : List (Int × Int)))))) s1
noncomputable def m_impl_pointsOf (l0 : List ((Int × Int) × Bool)) : Option ((List (Int × Int))) :=
  allO l0 fun (lo1 : List ((Int × Int) × Bool)) => Option.bind (foldR (m_impl_pointsOf_s1) (([] : List (Int × Int))) lo1) fun (r1 : (List (Int × Int))) => (fun (l2 : List (Int × Int)) => Option.bind (m_impl_sorted l2) fun y1 => some y1) r1

def m_impl_flow_beside_bimplflow_bimplMaze_s1 (l0_0_0 : List (List (Int))) (p1_0 : Int) (p1_1 : Int) (p1_2 : Bool) (s1 : (List (Int × Int × Bool)) × Int) : Option (Ctl ((List (Int × Int × Bool)) × Int) ((List (Int × Int × Bool)))) :=
  match s1 with | (l1, x1) => (bif decide (x1 < 4) then Option.bind (Option.bind (m_impl_next p1_0 p1_1 x1) fun y1 => Option.bind (m_impl_Maze_open_bimplMaze l0_0_0 y1.1 y1.2) fun y2 => (bif y2 then Option.bind (apC l1 (([(y1.1, y1.2, !p1_2)] : List (Int × Int × Bool)))) fun _ => some (l1 ++ (([(y1.1, y1.2, !p1_2)] : List (Int × Int × Bool)))) else some l1)) fun (s2 : (List (Int × Int × Bool))) => (fun (l2 : List (Int × Int × Bool)) => some (Ctl.next ((l2, wr (x1 + 1))))) s2 else some (Ctl.out l1))
noncomputable def m_impl_flow_beside_bimplflow_bimplMaze (l0_0_0 : List (List (Int))) (q0_1 : Int) (q0_2 : Int) (q0_3 : Int) (q0_4 : Int) (l0_5 : List ((Int × Int × Bool × Int × Int × Bool) × Bool)) (p1_0 : Int) (p1_1 : Int) (p1_2 : Bool) : Option ((List (Int × Int × Bool))) :=
  Option.bind (loopM (m_impl_flow_beside_bimplflow_bimplMaze_s1 l0_0_0 p1_0 p1_1 p1_2) ((([(p1_0, p1_1, !p1_2)] : List (Int × Int × Bool)), 0))) fun (r1 : (List (Int × Int × Bool))) => (fun (l3 : List (Int × Int × Bool)) => some l3) r1

def m_impl_flow_room_bimplflow_bimplMaze (l0_0_0 : List (List (Int))) (q0_1 : Int) (q0_2 : Int) (q0_3 : Int) (q0_4 : Int) (l0_5 : List ((Int × Int × Bool × Int × Int × Bool) × Bool)) (p1_0 : Int) (p1_1 : Int) (p1_2 : Bool) (p2_0 : Int) (p2_1 : Int) (p2_2 : Bool) : Option ((Bool)) :=
  Option.bind (mgC (okIIBIIB ((p2_0, p2_1, p2_2, p1_0, p1_1, p1_2))) false l0_5 ((p2_0, p2_1, p2_2, p1_0, p1_1, p1_2))) fun y1 => (bif y1 then some true else Option.bind (mgC (okIIBIIB ((p1_0, p1_1, p1_2, p2_0, p2_1, p2_2))) false l0_5 ((p1_0, p1_1, p1_2, p2_0, p2_1, p2_2))) fun y2 => (bif y2 then (bif p1_2 then some true else (bif p1_0 == q0_1 && p1_1 == q0_2 then some true else some (p1_0 == q0_3 && p1_1 == q0_4))) else (bif !(p1_2 == p2_2) then some ((p1_0 == p2_0 && p1_1 == p2_1) == p2_2) else some false)))

noncomputable def m_impl_flow_search_bimplflow_bimplMaze_s4 (l0_0_0 : List (List (Int))) (q0_1 : Int) (q0_2 : Int) (q0_3 : Int) (q0_4 : Int) (l0_5 : List ((Int × Int × Bool × Int × Int × Bool) × Bool)) (y1 : (List (Int × Int × Bool))) (s1 : (List (Int × Int × Bool)) × Int × (List ((Int × Int × Bool) × (Int × Int × Bool)))) : Option (Ctl ((List (Int × Int × Bool)) × Int × (List ((Int × Int × Bool) × (Int × Int × Bool)))) ((List (Int × Int × Bool)) × (List ((Int × Int × Bool) × (Int × Int × Bool))))) :=
  match s1 with | (l1, x1, l2) => (bif decide (x1 < (((y1).length : Int))) then Option.bind (Option.bind (geti y1 x1) fun x2 => Option.bind (mpC (okIIB ((x2.1, x2.2.1, x2.2.2)))) fun _ => (bif !((mget l2 ((x2.1, x2.2.1, x2.2.2))).isSome) then Option.bind (geti l1 0) fun x3 => Option.bind (m_impl_flow_room_bimplflow_bimplMaze l0_0_0 q0_1 q0_2 q0_3 q0_4 l0_5 x3.1 x3.2.1 x3.2.2 x2.1 x2.2.1 x2.2.2) fun y2 => (bif y2 then Option.bind (geti l1 0) fun x4 => Option.bind (mpC (okIIB ((x2.1, x2.2.1, x2.2.2)))) fun _ => Option.bind (apC l1 (([(x2.1, x2.2.1, x2.2.2)] : List (Int × Int × Bool)))) fun _ => some ((l1 ++ (([(x2.1, x2.2.1, x2.2.2)] : List (Int × Int × Bool))), mup l2 ((x2.1, x2.2.1, x2.2.2)) ((x4.1, x4.2.1, x4.2.2)))) else some ((l1, l2))) else some ((l1, l2)))) fun (s2 : (List (Int × Int × Bool)) × (List ((Int × Int × Bool) × (Int × Int × Bool)))) => match s2 with | (l3, l4) => some (Ctl.next ((l3, wr (x1 + 1), l4))) else some (Ctl.out ((l1, l2))))
noncomputable def m_impl_flow_search_bimplflow_bimplMaze_s3 (l0_0_0 : List (List (Int))) (q0_1 : Int) (q0_2 : Int) (q0_3 : Int) (q0_4 : Int) (l0_5 : List ((Int × Int × Bool × Int × Int × Bool) × Bool)) (s3 : (List (Int × Int × Bool)) × (List ((Int × Int × Bool) × (Int × Int × Bool)))) : Option (Ctl ((List (Int × Int × Bool)) × (List ((Int × Int × Bool) × (Int × Int × Bool)))) ((List ((Int × Int × Bool) × (Int × Int × Bool))))) :=
  match s3 with | (l5, l6) => (bif decide ((((l5).length : Int)) > 0) then Option.bind (geti l5 0) fun x5 => Option.bind (m_impl_flow_beside_bimplflow_bimplMaze l0_0_0 q0_1 q0_2 q0_3 q0_4 l0_5 x5.1 x5.2.1 x5.2.2) fun y1 => Option.bind (loopM (m_impl_flow_search_bimplflow_bimplMaze_s4 l0_0_0 q0_1 q0_2 q0_3 q0_4 l0_5 y1) ((l5, 0, l6))) fun (r1 : (List (Int × Int × Bool)) × (List ((Int × Int × Bool) × (Int × Int × Bool)))) => match r1 with | (l7, l8) => Option.bind (slci l7 1 ((l7).length : Int)) fun _ => some (Ctl.next ((l7.drop (Int.toNat 1), l8))) else some (Ctl.out l6))
noncomputable def m_impl_flow_search_bimplflow_bimplMaze (l0_0_0 : List (List (Int))) (q0_1 : Int) (q0_2 : Int) (q0_3 : Int) (q0_4 : Int) (l0_5 : List ((Int × Int × Bool × Int × Int × Bool) × Bool)) : Option ((List ((Int × Int × Bool) × (Int × Int × Bool)))) :=
  Option.bind (mpC (okIIB ((q0_1, q0_2, true)))) fun _ => Option.bind (loopM (m_impl_flow_search_bimplflow_bimplMaze_s3 l0_0_0 q0_1 q0_2 q0_3 q0_4 l0_5) ((([(q0_1, q0_2, true)] : List (Int × Int × Bool)), mup (([] : List ((Int × Int × Bool) × (Int × Int × Bool)))) ((q0_1, q0_2, true)) ((q0_1, q0_2, true))))) fun (r2 : (List ((Int × Int × Bool) × (Int × Int × Bool)))) => (fun (l9 : List ((Int × Int × Bool) × (Int × Int × Bool))) => some l9) r2

def m_impl_flow_push_bimplflow_bimplMaze_s1 (q0_1 : Int) (q0_2 : Int) (l1 : List ((Int × Int × Bool) × (Int × Int × Bool))) (s1 : Int × Int × Bool × (List ((Int × Int × Bool × Int × Int × Bool) × Bool))) : Option (Ctl (Int × Int × Bool × (List ((Int × Int × Bool × Int × Int × Bool) × Bool))) ((List ((Int × Int × Bool × Int × Int × Bool) × Bool)))) :=
  match s1 with | (x1, x2, x3, l2) => (bif !(x1 == q0_1 && x2 == q0_2 && x3 == true) then Option.bind (Option.bind (mgC (okIIB ((x1, x2, x3))) (0, 0, false) l1 ((x1, x2, x3))) fun y1 => Option.bind (Option.bind (mgC (okIIBIIB ((x1, x2, x3, (y1).1, (y1).2.1, (y1).2.2))) false l2 ((x1, x2, x3, (y1).1, (y1).2.1, (y1).2.2))) fun y2 => (bif y2 then Option.bind (mpC (okIIBIIB ((x1, x2, x3, (y1).1, (y1).2.1, (y1).2.2)))) fun _ => some (mdel l2 ((x1, x2, x3, (y1).1, (y1).2.1, (y1).2.2))) else Option.bind (mpC (okIIBIIB (((y1).1, (y1).2.1, (y1).2.2, x1, x2, x3)))) fun _ => some (mup l2 (((y1).1, (y1).2.1, (y1).2.2, x1, x2, x3)) true))) fun (s2 : (List ((Int × Int × Bool × Int × Int × Bool) × Bool))) => (fun (l3 : List ((Int × Int × Bool × Int × Int × Bool) × Bool)) => some (((y1).1, (y1).2.1, (y1).2.2, l3))) s2) fun (s3 : Int × Int × Bool × (List ((Int × Int × Bool × Int × Int × Bool) × Bool))) => match s3 with | (x4, x5, x6, l4) => some (Ctl.next ((x4, x5, x6, l4))) else some (Ctl.out l2))
noncomputable def m_impl_flow_push_bimplflow_bimplMaze (l0_0_0 : List (List (Int))) (q0_1 : Int) (q0_2 : Int) (q0_3 : Int) (q0_4 : Int) (l0_5 : List ((Int × Int × Bool × Int × Int × Bool) × Bool)) (l1 : List ((Int × Int × Bool) × (Int × Int × Bool))) : Option ((Bool) × (List ((Int × Int × Bool × Int × Int × Bool) × Bool))) :=
  Option.bind (mpC (okIIB ((q0_3, q0_4, false)))) fun _ => (bif !((mget l1 ((q0_3, q0_4, false))).isSome) then some ((false, l0_5)) else Option.bind (loopM (m_impl_flow_push_bimplflow_bimplMaze_s1 q0_1 q0_2 l1) ((q0_3, q0_4, false, l0_5))) fun (r1 : (List ((Int × Int × Bool × Int × Int × Bool) × Bool))) => (fun (l5 : List ((Int × Int × Bool × Int × Int × Bool) × Bool)) => some ((true, l5))) r1)

noncomputable def m_impl_apart_s2 (p1_0 : Int) (p1_1 : Int) (l1 : List ((Int × Int × Bool) × (Int × Int × Bool))) (s1 : (List ((Int × Int) × Bool))) (p1 : (Int × Int × Bool) × (Int × Int × Bool)) : Option (Ctl ((List ((Int × Int) × Bool))) (Unit)) :=
  (fun (l2 : List ((Int × Int) × Bool)) => Option.bind (Option.bind (mpC (okIIB ((p1.1.1, p1.1.2.1, true)))) fun _ => (bif !p1.1.2.2 then (bif !((mget l1 ((p1.1.1, p1.1.2.1, true))).isSome) then (bif !(p1.1.1 == p1_0 && p1.1.2.1 == p1_1) then Option.bind (mpC (okII ((p1.1.1, p1.1.2.1)))) fun _ => some (mup l2 ((p1.1.1, p1.1.2.1)) true) else some l2) else some l2) else some l2)) fun (s2 : (List ((Int × Int) × Bool))) => (fun (l3 : List ((Int × Int) × Bool)) => some (Ctl.next l3)) s2) s1
noncomputable def m_impl_apart_s1 (l0_0 : List (List (Int))) (p1_0 : Int) (p1_1 : Int) (p2_0 : Int) (p2_1 : Int) (s3 : Int × (List ((Int × Int × Bool) × (Int × Int × Bool))) × (List ((Int × Int × Bool × Int × Int × Bool) × Bool))) : Option (Ctl (Int × (List ((Int × Int × Bool) × (Int × Int × Bool))) × (List ((Int × Int × Bool × Int × Int × Bool) × Bool))) (Int × (List ((Int × Int × Bool) × (Int × Int × Bool))))) :=
  match s3 with | (x1, l4, l5) => Option.bind (m_impl_flow_push_bimplflow_bimplMaze l0_0 p1_0 p1_1 p2_0 p2_1 l5 l4) fun y1 => (bif y1.1 then Option.bind (m_impl_flow_search_bimplflow_bimplMaze l0_0 p1_0 p1_1 p2_0 p2_1 y1.2) fun y2 => some (Ctl.next ((wr (x1 + 1), y2, y1.2))) else some (Ctl.out ((x1, l4))))
noncomputable def m_impl_apart (l0_0 : List (List (Int))) (p1_0 : Int) (p1_1 : Int) (p2_0 : Int) (p2_1 : Int) : Option ((Int) × (List (Int × Int))) :=
  Option.bind (m_impl_flow_search_bimplflow_bimplMaze l0_0 p1_0 p1_1 p2_0 p2_1 (([] : List ((Int × Int × Bool × Int × Int × Bool) × Bool)))) fun y3 => Option.bind (loopM (m_impl_apart_s1 l0_0 p1_0 p1_1 p2_0 p2_1) ((0, y3, ([] : List ((Int × Int × Bool × Int × Int × Bool) × Bool))))) fun (r1 : Int × (List ((Int × Int × Bool) × (Int × Int × Bool)))) => match r1 with | (x2, l1) => allO l1 fun (lo1 : List ((Int × Int × Bool) × (Int × Int × Bool))) => Option.bind (foldR (m_impl_apart_s2 p1_0 p1_1 l1) (([] : List ((Int × Int) × Bool))) lo1) fun (r2 : (List ((Int × Int) × Bool))) => (fun (l6 : List ((Int × Int) × Bool)) => Option.bind (m_impl_pointsOf l6) fun y4 => some ((x2, y4))) r2

noncomputable def m_impl_FewestBlocks (l0_0 : List (List (Int))) (p1_0 : Int) (p1_1 : Int) (p2_0 : Int) (p2_1 : Int) : Option ((List (Int × Int)) × (Bool)) :=
  Option.bind (m_impl_blockOk l0_0 p1_0 p1_1 p2_0 p2_1) fun y1 => (bif !y1 then some (([], false)) else Option.bind (m_impl_apart l0_0 p1_0 p1_1 p2_0 p2_1) fun y2 => some ((y2.2, true)))

noncomputable def m_impl_MostApart (l0_0 : List (List (Int))) (p1_0 : Int) (p1_1 : Int) (p2_0 : Int) (p2_1 : Int) : Option ((Int) × (Bool)) :=
  Option.bind (m_impl_blockOk l0_0 p1_0 p1_1 p2_0 p2_1) fun y1 => (bif !y1 then some ((0, false)) else Option.bind (m_impl_apart l0_0 p1_0 p1_1 p2_0 p2_1) fun y2 => some ((y2.1, true)))

def m_impl_IsPoint (p0_0 : Int) (p0_1 : Int) : Option ((Bool)) :=
  Option.bind (m_impl_in p0_0 0 99) fun y1 => (bif y1 then Option.bind (m_impl_in p0_1 0 99) fun y2 => some y2 else some false)

def m_impl_DistanceOf (p0_0 : Int) (p0_1 : Int) (p1_0 : Int) (p1_1 : Int) : Option ((Int) × (Bool)) :=
  Option.bind (m_impl_IsPoint p0_0 p0_1) fun y1 => (bif !y1 then some ((0, false)) else Option.bind (m_impl_IsPoint p1_0 p1_1) fun y2 => (bif !y2 then some ((0, false)) else Option.bind (m_impl_far p0_0 p0_1 p1_0 p1_1) fun y3 => some ((y3, true))))

noncomputable def m_impl_mazeOk (l0_0 : List (List (Int))) (p1_0 : Int) (p1_1 : Int) (p2_0 : Int) (p2_1 : Int) (p3 : Int) : Option ((Bool)) :=
  Option.bind (m_impl_IsOpen l0_0 p1_0 p1_1) fun y1 => (bif y1 then Option.bind (m_impl_Maze_open_bimplMaze l0_0 p2_0 p2_1) fun y2 => (bif y2 then Option.bind (m_impl_in p3 0 1000000000) fun y3 => some y3 else some false) else some false)

def m_impl_Maze_after_bimplMaze (l0_0 : List (List (Int))) (p1_0 : Int) (p1_1 : Int) (p1_2 : Int) (p2 : Int) (p3 : Int) : Option ((Int × Int × Int) × (Int) × (Bool)) :=
  Option.bind (m_impl_next p1_0 p1_1 p2) fun y1 => Option.bind (m_impl_Maze_open_bimplMaze l0_0 y1.1 y1.2) fun y2 => (bif !y2 then some (((0, 0, 0), 0, false)) else Option.bind (m_impl_Maze_price_bimplMaze l0_0 y1.1 y1.2) fun y3 => Option.bind ((bif p1_2 != 4 then (bif p1_2 != p2 then some (wr (y3 + p3)) else some y3) else some y3)) fun (s1 : Int) => (fun (x1 : Int) => some (((y1.1, y1.2, p2), x1, true))) s1)

def m_impl_Maze_costs_bimplMaze_s13 (l0_0 : List (List (Int))) (x1 : Int) (x2 : Int) (s1 : (List (Int × Int × Int)) × Int) : Option (Ctl ((List (Int × Int × Int)) × Int) ((List (Int × Int × Int)))) :=
  match s1 with | (l1, x3) => (bif decide (x3 < 5) then Option.bind (Option.bind (m_impl_Maze_open_bimplMaze l0_0 x2 x1) fun y1 => (bif y1 then Option.bind (apC l1 (([(x2, x1, x3)] : List (Int × Int × Int)))) fun _ => some (l1 ++ (([(x2, x1, x3)] : List (Int × Int × Int)))) else some l1)) fun (s2 : (List (Int × Int × Int))) => (fun (l2 : List (Int × Int × Int)) => some (Ctl.next ((l2, wr (x3 + 1))))) s2 else some (Ctl.out l1))
noncomputable def m_impl_Maze_costs_bimplMaze_s12 (l0_0 : List (List (Int))) (x1 : Int) (x4 : List (Int)) (s3 : (List (Int × Int × Int)) × Int) : Option (Ctl ((List (Int × Int × Int)) × Int) ((List (Int × Int × Int)))) :=
  match s3 with | (l3, x2) => (bif decide (x2 < (((x4).length : Int))) then Option.bind (loopM (m_impl_Maze_costs_bimplMaze_s13 l0_0 x1 x2) ((l3, 0))) fun (r1 : (List (Int × Int × Int))) => (fun (l4 : List (Int × Int × Int)) => some (Ctl.next ((l4, wr (x2 + 1))))) r1 else some (Ctl.out l3))
def m_impl_Maze_costs_bimplMaze_s27 (l0_0 : List (List (Int))) (p2 : Int) (x5 : Int × Int × Int) (s4 : Bool × Int × (List ((Int × Int × Int) × Int))) : Option (Ctl (Bool × Int × (List ((Int × Int × Int) × Int))) (Bool × (List ((Int × Int × Int) × Int)))) :=
  match s4 with | (x6, x7, l5) => (bif decide (x7 < 4) then Option.bind (m_impl_Maze_after_bimplMaze l0_0 x5.1 x5.2.1 x5.2.2 x7 p2) fun y2 => Option.bind (mpC (okIII ((y2.1.1, y2.1.2.1, y2.1.2.2)))) fun _ => (bif !y2.2.2 then some (Ctl.next ((x6, wr (x7 + 1), l5))) else (bif !((mget l5 ((y2.1.1, y2.1.2.1, y2.1.2.2))).isSome) then some (Ctl.next ((x6, wr (x7 + 1), l5))) else Option.bind (Option.bind (mpC (okIII ((x5.1, x5.2.1, x5.2.2)))) fun _ => (bif !((mget l5 ((x5.1, x5.2.1, x5.2.2))).isSome) then Option.bind (mpC (okIII ((x5.1, x5.2.1, x5.2.2)))) fun _ => some ((true, mup l5 ((x5.1, x5.2.1, x5.2.2)) (wr (y2.2.1 + ((mget l5 ((y2.1.1, y2.1.2.1, y2.1.2.2))).getD 0))))) else (bif decide ((wr (y2.2.1 + ((mget l5 ((y2.1.1, y2.1.2.1, y2.1.2.2))).getD 0))) < ((mget l5 ((x5.1, x5.2.1, x5.2.2))).getD 0)) then Option.bind (mpC (okIII ((x5.1, x5.2.1, x5.2.2)))) fun _ => some ((true, mup l5 ((x5.1, x5.2.1, x5.2.2)) (wr (y2.2.1 + ((mget l5 ((y2.1.1, y2.1.2.1, y2.1.2.2))).getD 0))))) else some ((x6, l5))))) fun (s5 : Bool × (List ((Int × Int × Int) × Int))) => match s5 with | (x8, l6) => some (Ctl.next ((x8, wr (x7 + 1), l6))))) else some (Ctl.out ((x6, l5))))
noncomputable def m_impl_Maze_costs_bimplMaze_s26 (l0_0 : List (List (Int))) (p2 : Int) (l7 : List (Int × Int × Int)) (s6 : Bool × Int × (List ((Int × Int × Int) × Int))) : Option (Ctl (Bool × Int × (List ((Int × Int × Int) × Int))) (Bool × (List ((Int × Int × Int) × Int)))) :=
  match s6 with | (x9, x10, l8) => (bif decide (x10 < (((l7).length : Int))) then Option.bind (geti l7 x10) fun x5 => Option.bind (loopM (m_impl_Maze_costs_bimplMaze_s27 l0_0 p2 x5) ((x9, 0, l8))) fun (r2 : Bool × (List ((Int × Int × Int) × Int))) => match r2 with | (x11, l9) => some (Ctl.next ((x11, wr (x10 + 1), l9))) else some (Ctl.out ((x9, l8))))
noncomputable def m_impl_Maze_costs_bimplMaze_s23 (l0_0 : List (List (Int))) (p2 : Int) (l7 : List (Int × Int × Int)) (s7 : Bool × (List ((Int × Int × Int) × Int))) : Option (Ctl (Bool × (List ((Int × Int × Int) × Int))) ((List ((Int × Int × Int) × Int)))) :=
  match s7 with | (x12, l10) => (bif x12 then Option.bind (loopM (m_impl_Maze_costs_bimplMaze_s26 l0_0 p2 l7) ((false, 0, l10))) fun (r3 : Bool × (List ((Int × Int × Int) × Int))) => match r3 with | (x13, l11) => some (Ctl.next ((x13, l11))) else some (Ctl.out l10))
def m_impl_Maze_costs_bimplMaze_s14 (p1_0 : Int) (p1_1 : Int) (s8 : Int × (List ((Int × Int × Int) × Int))) : Option (Ctl (Int × (List ((Int × Int × Int) × Int))) ((List ((Int × Int × Int) × Int)))) :=
  match s8 with | (x14, l12) => (bif decide (x14 < 5) then Option.bind (mpC (okIII ((p1_0, p1_1, x14)))) fun _ => some (Ctl.next ((wr (x14 + 1), mup l12 ((p1_0, p1_1, x14)) 0))) else some (Ctl.out l12))
noncomputable def m_impl_Maze_costs_bimplMaze_s9 (l0_0 : List (List (Int))) (s9 : (List (Int × Int × Int)) × Int) : Option (Ctl ((List (Int × Int × Int)) × Int) ((List (Int × Int × Int)))) :=
  match s9 with | (l13, x1) => (bif decide (x1 < (((l0_0).length : Int))) then Option.bind (geti l0_0 x1) fun x4 => Option.bind (loopM (m_impl_Maze_costs_bimplMaze_s12 l0_0 x1 x4) ((l13, 0))) fun (r4 : (List (Int × Int × Int))) => (fun (l14 : List (Int × Int × Int)) => some (Ctl.next ((l14, wr (x1 + 1))))) r4 else some (Ctl.out l13))
noncomputable def m_impl_Maze_costs_bimplMaze (l0_0 : List (List (Int))) (p1_0 : Int) (p1_1 : Int) (p2 : Int) : Option ((List ((Int × Int × Int) × Int))) :=
  Option.bind (loopM (m_impl_Maze_costs_bimplMaze_s9 l0_0) ((([] : List (Int × Int × Int)), 0))) fun (r5 : (List (Int × Int × Int))) => (fun (l7 : List (Int × Int × Int)) => Option.bind (loopM (m_impl_Maze_costs_bimplMaze_s14 p1_0 p1_1) ((0, ([] : List ((Int × Int × Int) × Int))))) fun (r6 : (List ((Int × Int × Int) × Int))) => (fun (l15 : List ((Int × Int × Int) × Int)) => Option.bind (loopM (m_impl_Maze_costs_bimplMaze_s23 l0_0 p2 l7) ((true, l15))) fun (r7 : (List ((Int × Int × Int) × Int))) => (fun (l16 : List ((Int × Int × Int) × Int)) => some l16) r7) r6) r5

noncomputable def m_impl_CheapestWay_s4 (l0_0 : List (List (Int))) (p3 : Int) (y1 : (List ((Int × Int × Int) × Int))) (l1 : List (Int)) (x1 : Int) (x2 : Int) (x3 : Int) (s1 : Int) : Option (Ctl (Int) ((List (Int)) × Int × Int × Int)) :=
  (fun (x4 : Int) => (bif decide (x4 < 4) then Option.bind (m_impl_Maze_after_bimplMaze l0_0 x1 x2 x3 x4 p3) fun y2 => Option.bind (mpC (okIII ((y2.1.1, y2.1.2.1, y2.1.2.2)))) fun _ => (bif y2.2.2 then (bif (mget y1 ((y2.1.1, y2.1.2.1, y2.1.2.2))).isSome then Option.bind (mgC (okIII ((x1, x2, x3))) 0 y1 ((x1, x2, x3))) fun y3 => (bif (wr (y2.2.1 + ((mget y1 ((y2.1.1, y2.1.2.1, y2.1.2.2))).getD 0))) == y3 then Option.bind (sget (ByteArray.mk #[100, 108, 114, 117]) x4) fun x5 => Option.bind (apC l1 (([x5] : List (Int)))) fun _ => some (Ctl.out ((l1 ++ (([x5] : List (Int))), y2.1.1, y2.1.2.1, y2.1.2.2))) else some (Ctl.next (wr (x4 + 1)))) else some (Ctl.next (wr (x4 + 1)))) else some (Ctl.next (wr (x4 + 1)))) else some (Ctl.out ((l1, x1, x2, x3))))) s1
noncomputable def m_impl_CheapestWay_s3 (l0_0 : List (List (Int))) (p2_0 : Int) (p2_1 : Int) (p3 : Int) (y1 : (List ((Int × Int × Int) × Int))) (s2 : (List (Int)) × Int × Int × Int) : Option (Ctl ((List (Int)) × Int × Int × Int) ((List (Int)))) :=
  match s2 with | (l1, x1, x2, x3) => (bif !(x1 == p2_0 && x2 == p2_1) then Option.bind (loopM (m_impl_CheapestWay_s4 l0_0 p3 y1 l1 x1 x2 x3) 0) fun (r1 : (List (Int)) × Int × Int × Int) => match r1 with | (l2, x6, x7, x8) => some (Ctl.next ((l2, x6, x7, x8))) else some (Ctl.out l1))
noncomputable def m_impl_CheapestWay (l0_0 : List (List (Int))) (p1_0 : Int) (p1_1 : Int) (p2_0 : Int) (p2_1 : Int) (p3 : Int) : Option ((ByteArray) × (Int) × (Bool)) :=
  Option.bind (m_impl_mazeOk l0_0 p1_0 p1_1 p2_0 p2_1 p3) fun y4 => (bif !y4 then some ((ByteArray.mk #[], 0, false)) else Option.bind (m_impl_Maze_costs_bimplMaze l0_0 p2_0 p2_1 p3) fun y1 => Option.bind (mpC (okIII ((p1_0, p1_1, 4)))) fun _ => (bif !((mget y1 ((p1_0, p1_1, 4))).isSome) then some ((ByteArray.mk #[], 0, false)) else Option.bind (loopM (m_impl_CheapestWay_s3 l0_0 p2_0 p2_1 p3 y1) ((([] : List (Int)), p1_0, p1_1, 4))) fun (r2 : (List (Int))) => (fun (l3 : List (Int)) => some ((bstr (l3 : List (Int)), (mget y1 ((p1_0, p1_1, 4))).getD 0, true))) r2))

noncomputable def m_laws_FnBlocked_s7 (y1 : ((List (List (Int))))) (y2 : (Int × Int)) (y3 : (Int × Int)) (y4 : (List (Int × Int)) × (Bool)) (x1 : Int) (s1 : Int × (List (List (Int)))) : Option (Ctl (Int × (List (List (Int)))) (Sum ((List (List (Int)))) ((Bool)))) :=
  match s1 with | (x2, l2) => (bif decide (x2 < (((y4.1).length : Int))) then Option.bind (geti y4.1 x2) fun x3 => Option.bind (m_impl_IsOpen y1 x3.1 x3.2) fun y5 => (bif !y5 then some (Ctl.out (Sum.inr false)) else (bif x3.1 == y2.1 && x3.2 == y2.2 then some (Ctl.out (Sum.inr false)) else (bif x3.1 == y3.1 && x3.2 == y3.2 then some (Ctl.out (Sum.inr false)) else Option.bind ((bif x2 != x1 then Option.bind (geti l2 x3.2) fun x4 => Option.bind (geti x4 x3.1) fun x5 => some (l2.set (Int.toNat x3.2) (x4.set (Int.toNat x3.1) 0)) else some l2)) fun (s2 : (List (List (Int)))) => (fun (l3 : List (List (Int))) => some (Ctl.next ((wr (x2 + 1), l3)))) s2))) else some (Ctl.out (Sum.inl l2)))
noncomputable def m_laws_FnBlocked_s6 (y1 : ((List (List (Int))))) (s3 : Int × (List (List (Int)))) : Option (Ctl (Int × (List (List (Int)))) ((List (List (Int))))) :=
  match s3 with | (x6, l4) => (bif decide (x6 < (((y1).length : Int))) then Option.bind (geti y1 x6) fun x7 => Option.bind (apC (([] : List (Int))) x7) fun _ => Option.bind (apC l4 (([(([] : List (Int))) ++ x7] : List (List (Int))))) fun _ => some (Ctl.next ((wr (x6 + 1), l4 ++ (([(([] : List (Int))) ++ x7] : List (List (Int))))))) else some (Ctl.out l4))
noncomputable def m_laws_FnBlocked_s5 (y1 : ((List (List (Int))))) (y2 : (Int × Int)) (y3 : (Int × Int)) (y4 : (List (Int × Int)) × (Bool)) (s4 : Int) : Option (Ctl (Int) (Sum (Unit) ((Bool)))) :=
  (fun (x1 : Int) => (bif decide (x1 < (((y4.1).length : Int))) then Option.bind (loopM (m_laws_FnBlocked_s6 y1) ((0, ([] : List (List (Int)))))) fun (r1 : (List (List (Int)))) => (fun (l5 : List (List (Int))) => Option.bind (loopM (m_laws_FnBlocked_s7 y1 y2 y3 y4 x1) ((0, l5))) fun (r2 : Sum ((List (List (Int)))) ((Bool))) => match r2 with | Sum.inl q1 => ((fun (l6 : List (List (Int))) => Option.bind (m_impl_CheapestWay l6 y2.1 y2.2 y3.1 y3.2 0) fun y6 => (bif !(y6.2.2 == (decide (x1 ≥ 0))) then some (Ctl.out (Sum.inr false)) else some (Ctl.next (wr (x1 + 1))))) q1) | Sum.inr v1 => some (Ctl.out (Sum.inr v1))) r1 else some (Ctl.out (Sum.inl (()))))) s4
noncomputable def m_laws_FnBlocked (l0 : List (Int)) (l1 : List (Int)) : Option ((Bool)) :=
  Option.bind (m_laws_r8Long l0 l1) fun y7 => (bif y7 then some true else Option.bind (m_spec_R8Maze l0) fun y1 => Option.bind (m_spec_R8Open l0 y1) fun y2 => Option.bind (m_spec_R8Open l1 y1) fun y3 => Option.bind (m_impl_FewestBlocks y1 y2.1 y2.2 y3.1 y3.2) fun y4 => Option.bind (m_impl_MostApart y1 y2.1 y2.2 y3.1 y3.2) fun y8 => Option.bind (m_impl_DistanceOf y2.1 y2.2 y3.1 y3.2) fun y9 => (bif !y9.2 then some false else (bif !(y4.2 == (decide (y9.1 > 1))) then some false else (bif !(y8.2 == y4.2) then some false else (bif !y4.2 then Option.bind (m_impl_IsOpen y1 y2.1 y2.2) fun y10 => some y10 else (bif (((y4.1).length : Int)) != y8.1 then some false else (bif decide (y8.1 > 4) then some false else Option.bind (loopM (m_laws_FnBlocked_s5 y1 y2 y3 y4) ((-1))) fun (r3 : Sum (Unit) ((Bool))) => match r3 with | Sum.inl q2 => (some true) | Sum.inr v2 => some v2)))))))

def m_laws_szInt64S (l0 : List (Int)) (p1 : Int) : Option ((Int)) :=
  (bif decide ((wr (p1 - (((l0).length : Int)))) < 0) then some ((-1)) else some (wr (p1 - (((l0).length : Int)))))

noncomputable def m_laws_szInt64SS_s1 (l0 : List (List (Int))) (s1 : Int × Int) : Option (Ctl (Int × Int) (Sum (Int) ((Int)))) :=
  match s1 with | (x1, x2) => (bif decide (x2 < (((l0).length : Int))) then Option.bind (geti l0 x2) fun x3 => Option.bind (m_laws_szInt64S x3 x1) fun y1 => (bif decide (y1 < 0) then some (Ctl.out (Sum.inr ((-1)))) else some (Ctl.next ((y1, wr (x2 + 1))))) else some (Ctl.out (Sum.inl x1)))
noncomputable def m_laws_szInt64SS (l0 : List (List (Int))) (p1 : Int) : Option ((Int)) :=
  (bif decide ((wr (p1 - (((l0).length : Int)))) < 0) then some ((-1)) else Option.bind (loopM (m_laws_szInt64SS_s1 l0) ((wr (p1 - (((l0).length : Int))), 0))) fun (r1 : Sum (Int) ((Int))) => match r1 with | Sum.inl q1 => ((fun (x4 : Int) => some x4) q1) | Sum.inr v1 => some v1)

noncomputable def m_laws_szMaze (l0_0 : List (List (Int))) (p1 : Int) : Option ((Int)) :=
  Option.bind (m_laws_szInt64SS l0_0 p1) fun y1 => (bif decide (y1 < 0) then some ((-1)) else some y1)

def m_spec_l00Max (p0 : Int) (p1 : Int) : Option ((Int)) :=
  (bif decide (p0 > p1) then some p0 else some p1)

def m_spec_l01Abs (p0 : Int) : Option ((Int)) :=
  Option.bind (m_spec_l00Max p0 (wr (0 - p0))) fun y1 => some y1

def m_spec_l01Far (p0_0 : Int) (p0_1 : Int) (p1_0 : Int) (p1_1 : Int) : Option ((Int)) :=
  Option.bind (m_spec_l01Abs (wr (p0_0 - p1_0))) fun y1 => Option.bind (m_spec_l01Abs (wr (p0_1 - p1_1))) fun y2 => some (wr (y1 + y2))

def m_spec_l04Step (p0_0 : Int) (p0_1 : Int) (p1 : Int) : Option ((Int × Int)) :=
  (bif p1 == 0 then some ((p0_0, wr (p0_1 - 1))) else (bif p1 == 1 then some ((wr (p0_0 - 1), p0_1)) else (bif p1 == 2 then some ((wr (p0_0 + 1), p0_1)) else some ((p0_0, wr (p0_1 + 1))))))

def m_spec_l04Search_s5 (l0 : List (List (Int))) (x1 : Int) (s1 : (List (Int)) × Int × (List (Int))) : Option (Ctl ((List (Int)) × Int × (List (Int))) ((List (Int)) × (List (Int)))) :=
  match s1 with | (l1, x2, l2) => (bif decide (x2 < (((l0).length : Int))) then Option.bind (Option.bind (geti l1 x1) fun x3 => Option.bind (geti l0 x3) fun x4 => Option.bind (geti x4 x2) fun x5 => (bif decide (x5 > 0) then Option.bind (geti l2 x2) fun x6 => (bif decide (x6 < 0) then Option.bind (geti l1 x1) fun x7 => Option.bind (geti l2 x2) fun x8 => Option.bind (apC l1 (([x2] : List (Int)))) fun _ => some ((l1 ++ (([x2] : List (Int))), l2.set (Int.toNat x2) x7)) else some ((l1, l2))) else some ((l1, l2)))) fun (s2 : (List (Int)) × (List (Int))) => match s2 with | (l3, l4) => some (Ctl.next ((l3, wr (x2 + 1), l4))) else some (Ctl.out ((l1, l2))))
noncomputable def m_spec_l04Search_s4 (l0 : List (List (Int))) (s3 : (List (Int)) × Int × (List (Int))) : Option (Ctl ((List (Int)) × Int × (List (Int))) ((List (Int)))) :=
  match s3 with | (l5, x1, l6) => (bif decide (x1 < (((l5).length : Int))) then Option.bind (loopM (m_spec_l04Search_s5 l0 x1) ((l5, 0, l6))) fun (r1 : (List (Int)) × (List (Int))) => match r1 with | (l7, l8) => some (Ctl.next ((l7, wr (x1 + 1), l8))) else some (Ctl.out l6))
def m_spec_l04Search_s1 (l0 : List (List (Int))) (s4 : (List (Int)) × Int) : Option (Ctl ((List (Int)) × Int) ((List (Int)))) :=
  match s4 with | (l9, x9) => (bif decide (x9 < (((l0).length : Int))) then Option.bind (apC l9 (([(-1)] : List (Int)))) fun _ => some (Ctl.next ((l9 ++ (([(-1)] : List (Int))), wr (x9 + 1)))) else some (Ctl.out l9))
noncomputable def m_spec_l04Search (l0 : List (List (Int))) (p1 : Int) : Option ((List (Int))) :=
  Option.bind (loopM (m_spec_l04Search_s1 l0) ((([] : List (Int)), 0))) fun (r2 : (List (Int))) => (fun (l10 : List (Int)) => Option.bind (geti l10 p1) fun x10 => Option.bind (loopM (m_spec_l04Search_s4 l0) ((([p1] : List (Int)), 0, l10.set (Int.toNat p1) p1))) fun (r3 : (List (Int))) => (fun (l11 : List (Int)) => some l11) r3) r2

noncomputable def m_spec_l04Is_bimplMaze_s4 (l0_0 : List (List (Int))) (x1 : Int) (s1 : Int) : Option (Ctl (Int) (Sum (Unit) ((Bool)))) :=
  (fun (x2 : Int) => Option.bind (geti l0_0 x1) fun x3 => (bif decide (x2 < (((x3).length : Int))) then Option.bind (geti l0_0 x1) fun x4 => Option.bind (geti x4 x2) fun x5 => Option.bind (m_spec_l00In x5 0 9) fun y1 => (bif !y1 then some (Ctl.out (Sum.inr false)) else some (Ctl.next (wr (x2 + 1)))) else some (Ctl.out (Sum.inl (()))))) s1
noncomputable def m_spec_l04Is_bimplMaze_s3 (l0_0 : List (List (Int))) (s2 : Int) : Option (Ctl (Int) (Sum (Unit) ((Bool)))) :=
  (fun (x1 : Int) => (bif decide (x1 < (((l0_0).length : Int))) then Option.bind (geti l0_0 x1) fun x6 => Option.bind (geti l0_0 0) fun x7 => (bif (((x6).length : Int)) != (((x7).length : Int)) then some (Ctl.out (Sum.inr false)) else Option.bind (loopM (m_spec_l04Is_bimplMaze_s4 l0_0 x1) 0) fun (r1 : Sum (Unit) ((Bool))) => match r1 with | Sum.inl q1 => (some (Ctl.next (wr (x1 + 1)))) | Sum.inr v1 => some (Ctl.out (Sum.inr v1))) else some (Ctl.out (Sum.inl (()))))) s2
noncomputable def m_spec_l04Is_bimplMaze (l0_0 : List (List (Int))) : Option ((Bool)) :=
  Option.bind (m_spec_l00In (((l0_0).length : Int)) 1 12) fun y2 => (bif !y2 then some false else Option.bind (geti l0_0 0) fun x8 => Option.bind (m_spec_l00In (((x8).length : Int)) 1 12) fun y3 => (bif !y3 then some false else Option.bind (loopM (m_spec_l04Is_bimplMaze_s3 l0_0) 0) fun (r2 : Sum (Unit) ((Bool))) => match r2 with | Sum.inl q2 => (some true) | Sum.inr v2 => some v2))

noncomputable def m_spec_l04At_bimplMaze (l0_0 : List (List (Int))) (p1_0 : Int) (p1_1 : Int) : Option ((Bool)) :=
  Option.bind (m_spec_l04Is_bimplMaze l0_0) fun y1 => (bif y1 then Option.bind (m_spec_l04Open_bimplMaze l0_0 p1_0 p1_1) fun y2 => some y2 else some false)

noncomputable def m_spec_l04Both_bimplMaze (l0_0 : List (List (Int))) (p1_0 : Int) (p1_1 : Int) (p2_0 : Int) (p2_1 : Int) : Option ((Bool)) :=
  Option.bind (m_spec_l04At_bimplMaze l0_0 p1_0 p1_1) fun y1 => (bif y1 then Option.bind (m_spec_l04Open_bimplMaze l0_0 p2_0 p2_1) fun y2 => (bif y2 then Option.bind (m_spec_l01Far p1_0 p1_1 p2_0 p2_1) fun y3 => some (decide (y3 > 1)) else some false) else some false)

def m_spec_l04Index_bimplMaze (l0_0 : List (List (Int))) (p1_0 : Int) (p1_1 : Int) : Option ((Int)) :=
  Option.bind (geti l0_0 0) fun x1 => some (wr ((wr (p1_1 * (((x1).length : Int)))) + p1_0))

noncomputable def m_spec_l04Room_bimplMaze_s8 (l0_0 : List (List (Int))) (x1 : List (Int)) (x2 : Int) (s1 : Int × (List (List (Int)))) : Option (Ctl (Int × (List (List (Int)))) ((List (List (Int))))) :=
  match s1 with | (x3, l1) => (bif decide (x3 < 4) then Option.bind (Option.bind (m_spec_l04Step (Int.tmod x2 (((x1).length : Int))) (wr (Int.tdiv x2 (((x1).length : Int)))) x3) fun y1 => Option.bind (m_spec_l04Open_bimplMaze l0_0 y1.1 y1.2) fun y2 => (bif y2 then Option.bind (geti l1 (wr ((wr (2 * x2)) + 1))) fun x4 => Option.bind (m_spec_l04Index_bimplMaze l0_0 y1.1 y1.2) fun y3 => Option.bind (geti x4 (wr (2 * y3))) fun x5 => some (l1.set (Int.toNat (wr ((wr (2 * x2)) + 1))) (x4.set (Int.toNat (wr (2 * y3))) (wr ((((l0_0).length : Int)) * (((x1).length : Int)))))) else some l1)) fun (s2 : (List (List (Int)))) => (fun (l2 : List (List (Int))) => some (Ctl.next ((wr (x3 + 1), l2)))) s2 else some (Ctl.out l1))
noncomputable def m_spec_l04Room_bimplMaze_s6 (l0_0 : List (List (Int))) (p1_0 : Int) (p1_1 : Int) (p2_0 : Int) (p2_1 : Int) (x1 : List (Int)) (s3 : Int × (List (List (Int)))) : Option (Ctl (Int × (List (List (Int)))) ((List (List (Int))))) :=
  match s3 with | (x2, l3) => (bif decide (x2 < (wr ((((l0_0).length : Int)) * (((x1).length : Int))))) then Option.bind (nzC (((x1).length : Int))) fun u1 => Option.bind (nzC (((x1).length : Int))) fun u2 => Option.bind (m_spec_l04Open_bimplMaze l0_0 (Int.tmod x2 (((x1).length : Int))) (wr (Int.tdiv x2 (((x1).length : Int))))) fun y4 => (bif !y4 then some (Ctl.next ((wr (x2 + 1), l3))) else Option.bind (Option.bind ((bif !((Int.tmod x2 (((x1).length : Int))) == p1_0 && (wr (Int.tdiv x2 (((x1).length : Int)))) == p1_1) then (bif !((Int.tmod x2 (((x1).length : Int))) == p2_0 && (wr (Int.tdiv x2 (((x1).length : Int)))) == p2_1) then Option.bind (geti l3 (wr (2 * x2))) fun x6 => Option.bind (geti x6 (wr ((wr (2 * x2)) + 1))) fun x7 => some (l3.set (Int.toNat (wr (2 * x2))) (x6.set (Int.toNat (wr ((wr (2 * x2)) + 1))) 1)) else some l3) else some l3)) fun (s4 : (List (List (Int)))) => (fun (l4 : List (List (Int))) => Option.bind (loopM (m_spec_l04Room_bimplMaze_s8 l0_0 x1 x2) ((0, l4))) fun (r1 : (List (List (Int)))) => (fun (l5 : List (List (Int))) => some l5) r1) s4) fun (s5 : (List (List (Int)))) => (fun (l6 : List (List (Int))) => some (Ctl.next ((wr (x2 + 1), l6)))) s5) else some (Ctl.out l3))
def m_spec_l04Room_bimplMaze_s1 (l0_0 : List (List (Int))) (x1 : List (Int)) (s6 : (List (List (Int))) × Int) : Option (Ctl ((List (List (Int))) × Int) ((List (List (Int))))) :=
  match s6 with | (l7, x8) => (bif decide (x8 < (wr (2 * (wr ((((l0_0).length : Int)) * (((x1).length : Int))))))) then Option.bind (mkC (wr (2 * (wr ((((l0_0).length : Int)) * (((x1).length : Int))))))) fun _ => Option.bind (apC l7 (([List.replicate (Int.toNat (wr (2 * (wr ((((l0_0).length : Int)) * (((x1).length : Int))))))) ((0 : Int))] : List (List (Int))))) fun _ => some (Ctl.next ((l7 ++ (([List.replicate (Int.toNat (wr (2 * (wr ((((l0_0).length : Int)) * (((x1).length : Int))))))) ((0 : Int))] : List (List (Int)))), wr (x8 + 1)))) else some (Ctl.out l7))
noncomputable def m_spec_l04Room_bimplMaze (l0_0 : List (List (Int))) (p1_0 : Int) (p1_1 : Int) (p2_0 : Int) (p2_1 : Int) : Option ((List (List (Int)))) :=
  Option.bind (geti l0_0 0) fun x1 => Option.bind (loopM (m_spec_l04Room_bimplMaze_s1 l0_0 x1) ((([] : List (List (Int))), 0))) fun (r2 : (List (List (Int)))) => (fun (l8 : List (List (Int))) => Option.bind (loopM (m_spec_l04Room_bimplMaze_s6 l0_0 p1_0 p1_1 p2_0 p2_1 x1) ((0, l8))) fun (r3 : (List (List (Int)))) => (fun (l9 : List (List (Int))) => some l9) r3) r2

noncomputable def m_spec_l04Cut_bimplMaze_s4 (y1 : (Int)) (y2 : (List (Int))) (s1 : Int × (List (List (Int)))) : Option (Ctl (Int × (List (List (Int)))) ((List (List (Int))))) :=
  match s1 with | (x1, l1) => (bif x1 != (wr ((wr (2 * y1)) + 1)) then Option.bind (geti y2 x1) fun x2 => Option.bind (geti l1 x2) fun x3 => Option.bind (geti x3 x1) fun x4 => Option.bind (geti x3 x1) fun x5 => Option.bind (geti (l1.set (Int.toNat x2) (x3.set (Int.toNat x1) (wr (x4 - 1)))) x1) fun x6 => Option.bind (geti y2 x1) fun x7 => Option.bind (geti x6 x7) fun x8 => Option.bind (geti x6 x7) fun x9 => Option.bind (geti y2 x1) fun x10 => some (Ctl.next ((x10, (l1.set (Int.toNat x2) (x3.set (Int.toNat x1) (wr (x4 - 1)))).set (Int.toNat x1) (x6.set (Int.toNat x7) (wr (x8 + 1)))))) else some (Ctl.out l1))
noncomputable def m_spec_l04Cut_bimplMaze_s3 (y1 : (Int)) (y3 : (Int)) (s2 : Int × (List (List (Int)))) : Option (Ctl (Int × (List (List (Int)))) (Sum (Unit) ((Int) × (List (Int))))) :=
  match s2 with | (x11, l2) => Option.bind (m_spec_l04Search l2 (wr ((wr (2 * y1)) + 1))) fun y2 => Option.bind (geti y2 (wr (2 * y3))) fun x12 => (bif decide (x12 < 0) then some (Ctl.out (Sum.inr ((x11, y2)))) else Option.bind (loopM (m_spec_l04Cut_bimplMaze_s4 y1 y2) ((wr (2 * y3), l2))) fun (r1 : (List (List (Int)))) => (fun (l3 : List (List (Int))) => some (Ctl.next ((wr (x11 + 1), l3)))) r1)
noncomputable def m_spec_l04Cut_bimplMaze (l0_0 : List (List (Int))) (p1_0 : Int) (p1_1 : Int) (p2_0 : Int) (p2_1 : Int) : Option ((Int) × (List (Int))) :=
  Option.bind (m_spec_l04Room_bimplMaze l0_0 p1_0 p1_1 p2_0 p2_1) fun y4 => Option.bind (m_spec_l04Index_bimplMaze l0_0 p1_0 p1_1) fun y1 => Option.bind (m_spec_l04Index_bimplMaze l0_0 p2_0 p2_1) fun y3 => Option.bind (loopM (m_spec_l04Cut_bimplMaze_s3 y1 y3) ((0, y4))) fun (r2 : Sum (Unit) ((Int) × (List (Int)))) => match r2 with | Sum.inl q1 => (none) | Sum.inr v1 => some v1

noncomputable def m_spec_MostApart (l0_0 : List (List (Int))) (p1_0 : Int) (p1_1 : Int) (p2_0 : Int) (p2_1 : Int) : Option ((Int) × (Bool)) :=
  Option.bind (m_spec_l04Both_bimplMaze l0_0 p1_0 p1_1 p2_0 p2_1) fun y1 => (bif !y1 then some ((0, false)) else Option.bind (m_spec_l04Cut_bimplMaze l0_0 p1_0 p1_1 p2_0 p2_1) fun y2 => some ((y2.1, true)))

def m_laws_toInt64S_s1 (l0 : List (Int)) (s1 : Int × (List (Int))) : Option (Ctl (Int × (List (Int))) ((List (Int)))) :=
  match s1 with | (x1, l1) => (bif decide (x1 < (((l0).length : Int))) then Option.bind (geti l0 x1) fun x2 => Option.bind (geti l1 x1) fun x3 => some (Ctl.next ((wr (x1 + 1), l1.set (Int.toNat x1) x2))) else some (Ctl.out l1))
noncomputable def m_laws_toInt64S (l0 : List (Int)) : Option ((List (Int))) :=
  Option.bind (mkC (((l0).length : Int))) fun _ => Option.bind (loopM (m_laws_toInt64S_s1 l0) ((0, List.replicate (Int.toNat (((l0).length : Int))) ((0 : Int))))) fun (r1 : (List (Int))) => (fun (l2 : List (Int)) => some l2) r1

noncomputable def m_laws_toInt64SS_s1 (l0 : List (List (Int))) (s1 : (List (List (Int))) × Int) : Option (Ctl ((List (List (Int))) × Int) ((List (List (Int))))) :=
  match s1 with | (l1, x1) => (bif decide (x1 < (((l0).length : Int))) then Option.bind (geti l0 x1) fun x2 => Option.bind (m_laws_toInt64S x2) fun y1 => Option.bind (geti l1 x1) fun x3 => some (Ctl.next ((l1.set (Int.toNat x1) y1, wr (x1 + 1)))) else some (Ctl.out l1))
noncomputable def m_laws_toInt64SS (l0 : List (List (Int))) : Option ((List (List (Int)))) :=
  Option.bind (mkC (((l0).length : Int))) fun _ => Option.bind (loopM (m_laws_toInt64SS_s1 l0) ((List.replicate (Int.toNat (((l0).length : Int))) ([] : List (Int)), 0))) fun (r1 : (List (List (Int)))) => (fun (l2 : List (List (Int))) => some l2) r1

noncomputable def m_laws_toMaze (l0_0 : List (List (Int))) : Option (((List (List (Int))))) :=
  Option.bind (m_laws_toInt64SS l0_0) fun y1 => some ((y1))

def m_laws_toPoint (p0_0 : Int) (p0_1 : Int) : Option ((Int × Int)) :=
  some ((p0_0, p0_1))

def m_laws_eqInt64S_s1 (l0 : List (Int)) (l1 : List (Int)) (s1 : Int) : Option (Ctl (Int) (Sum (Unit) ((Bool)))) :=
  (fun (x1 : Int) => (bif decide (x1 < (((l0).length : Int))) then Option.bind (geti l0 x1) fun x2 => Option.bind (geti l1 x1) fun x3 => (bif x2 != x3 then some (Ctl.out (Sum.inr false)) else some (Ctl.next (wr (x1 + 1)))) else some (Ctl.out (Sum.inl (()))))) s1
noncomputable def m_laws_eqInt64S (l0 : List (Int)) (l1 : List (Int)) : Option ((Bool)) :=
  (bif (((l0).length : Int)) != (((l1).length : Int)) then some false else Option.bind (loopM (m_laws_eqInt64S_s1 l0 l1) 0) fun (r1 : Sum (Unit) ((Bool))) => match r1 with | Sum.inl q1 => (some true) | Sum.inr v1 => some v1)

noncomputable def m_laws_eqInt64SS_s1 (l0 : List (List (Int))) (l1 : List (List (Int))) (s1 : Int) : Option (Ctl (Int) (Sum (Unit) ((Bool)))) :=
  (fun (x1 : Int) => (bif decide (x1 < (((l0).length : Int))) then Option.bind (geti l0 x1) fun x2 => Option.bind (geti l1 x1) fun x3 => Option.bind (m_laws_eqInt64S x2 x3) fun y1 => (bif !y1 then some (Ctl.out (Sum.inr false)) else some (Ctl.next (wr (x1 + 1)))) else some (Ctl.out (Sum.inl (()))))) s1
noncomputable def m_laws_eqInt64SS (l0 : List (List (Int))) (l1 : List (List (Int))) : Option ((Bool)) :=
  (bif (((l0).length : Int)) != (((l1).length : Int)) then some false else Option.bind (loopM (m_laws_eqInt64SS_s1 l0 l1) 0) fun (r1 : Sum (Unit) ((Bool))) => match r1 with | Sum.inl q1 => (some true) | Sum.inr v1 => some v1)

noncomputable def m_laws_eqMaze (l0_0 : List (List (Int))) (l1_0 : List (List (Int))) : Option ((Bool)) :=
  Option.bind (m_laws_eqInt64SS l0_0 l1_0) fun y1 => (bif !y1 then some false else some true)

noncomputable def m_laws_FnExactMostApart (l0_0 : List (List (Int))) (p1_0 : Int) (p1_1 : Int) (p2_0 : Int) (p2_1 : Int) : Option ((Bool)) :=
  Option.bind (m_laws_szMaze l0_0 1048576) fun y1 => (bif decide (y1 < 0) then some true else Option.bind (m_laws_toMaze l0_0) fun y2 => Option.bind (m_laws_toPoint p1_0 p1_1) fun y3 => Option.bind (m_laws_toPoint p2_0 p2_1) fun y4 => Option.bind (m_spec_MostApart y2 y3.1 y3.2 y4.1 y4.2) fun y5 => Option.bind (m_laws_toMaze l0_0) fun y6 => Option.bind (m_laws_toPoint p1_0 p1_1) fun y7 => Option.bind (m_laws_toPoint p2_0 p2_1) fun y8 => Option.bind (m_impl_MostApart y6 y7.1 y7.2 y8.1 y8.2) fun y9 => (bif y9.1 != y5.1 then some false else (bif !(y9.2 == y5.2) then some false else Option.bind (m_laws_toMaze l0_0) fun y10 => Option.bind (m_laws_eqMaze y6 y10) fun y11 => (bif !y11 then some false else some true))))

noncomputable def m_spec_l04Sorted_bimplMaze_s4 (l0_0 : List (List (Int))) (l1 : List (Bool)) (x1 : Int) (s1 : (List (Int × Int)) × Int) : Option (Ctl ((List (Int × Int)) × Int) ((List (Int × Int)))) :=
  match s1 with | (l2, x2) => (bif decide (x2 < (((l0_0).length : Int))) then Option.bind (Option.bind (m_spec_l04Index_bimplMaze l0_0 x1 x2) fun y1 => Option.bind (geti l1 y1) fun x3 => (bif x3 then Option.bind (apC l2 (([(x1, x2)] : List (Int × Int)))) fun _ => some (l2 ++ (([(x1, x2)] : List (Int × Int)))) else some l2)) fun (s2 : (List (Int × Int))) => (fun (l3 : List (Int × Int)) => some (Ctl.next ((l3, wr (x2 + 1))))) s2 else some (Ctl.out l2))
noncomputable def m_spec_l04Sorted_bimplMaze_s3 (l0_0 : List (List (Int))) (l1 : List (Bool)) (s3 : (List (Int × Int)) × Int) : Option (Ctl ((List (Int × Int)) × Int) ((List (Int × Int)))) :=
  match s3 with | (l4, x1) => Option.bind (geti l0_0 0) fun x4 => (bif decide (x1 < (((x4).length : Int))) then Option.bind (loopM (m_spec_l04Sorted_bimplMaze_s4 l0_0 l1 x1) ((l4, 0))) fun (r1 : (List (Int × Int))) => (fun (l5 : List (Int × Int)) => some (Ctl.next ((l5, wr (x1 + 1))))) r1 else some (Ctl.out l4))
noncomputable def m_spec_l04Sorted_bimplMaze (l0_0 : List (List (Int))) (l1 : List (Bool)) : Option ((List (Int × Int))) :=
  Option.bind (loopM (m_spec_l04Sorted_bimplMaze_s3 l0_0 l1) ((([] : List (Int × Int)), 0))) fun (r2 : (List (Int × Int))) => (fun (l6 : List (Int × Int)) => some l6) r2

noncomputable def m_spec_FewestBlocks_s1 (y1 : (Int) × (List (Int))) (s1 : Int × (List (Bool))) : Option (Ctl (Int × (List (Bool))) ((List (Bool)))) :=
  match s1 with | (x1, l1) => (bif decide (x1 < (((l1).length : Int))) then Option.bind (geti y1.2 (wr (2 * x1))) fun x2 => (bif decide (x2 ≥ 0) then Option.bind (geti y1.2 (wr ((wr (2 * x1)) + 1))) fun x3 => Option.bind (geti l1 x1) fun x4 => some (Ctl.next ((wr (x1 + 1), l1.set (Int.toNat x1) (decide (x3 < 0))))) else Option.bind (geti l1 x1) fun x5 => some (Ctl.next ((wr (x1 + 1), l1.set (Int.toNat x1) false)))) else some (Ctl.out l1))
noncomputable def m_spec_FewestBlocks (l0_0 : List (List (Int))) (p1_0 : Int) (p1_1 : Int) (p2_0 : Int) (p2_1 : Int) : Option ((List (Int × Int)) × (Bool)) :=
  Option.bind (m_spec_l04Both_bimplMaze l0_0 p1_0 p1_1 p2_0 p2_1) fun y2 => (bif !y2 then some (([], false)) else Option.bind (m_spec_l04Cut_bimplMaze l0_0 p1_0 p1_1 p2_0 p2_1) fun y1 => Option.bind (mkC (wr (Int.tdiv (((y1.2).length : Int)) 2))) fun _ => Option.bind (loopM (m_spec_FewestBlocks_s1 y1) ((0, List.replicate (Int.toNat (wr (Int.tdiv (((y1.2).length : Int)) 2))) ((false : Bool))))) fun (r1 : (List (Bool))) => (fun (l2 : List (Bool)) => Option.bind (m_spec_l04Sorted_bimplMaze l0_0 l2) fun y3 => some ((y3, true))) r1)

def m_laws_eqPoint (p0_0 : Int) (p0_1 : Int) (p1_0 : Int) (p1_1 : Int) : Option ((Bool)) :=
  (bif p0_0 != p1_0 then some false else (bif p0_1 != p1_1 then some false else some true))

def m_laws_eqPointS_s1 (l0 : List (Int × Int)) (l1 : List (Int × Int)) (s1 : Int) : Option (Ctl (Int) (Sum (Unit) ((Bool)))) :=
  (fun (x1 : Int) => (bif decide (x1 < (((l0).length : Int))) then Option.bind (geti l0 x1) fun x2 => Option.bind (geti l1 x1) fun x3 => Option.bind (m_laws_eqPoint x2.1 x2.2 x3.1 x3.2) fun y1 => (bif !y1 then some (Ctl.out (Sum.inr false)) else some (Ctl.next (wr (x1 + 1)))) else some (Ctl.out (Sum.inl (()))))) s1
noncomputable def m_laws_eqPointS (l0 : List (Int × Int)) (l1 : List (Int × Int)) : Option ((Bool)) :=
  (bif (((l0).length : Int)) != (((l1).length : Int)) then some false else Option.bind (loopM (m_laws_eqPointS_s1 l0 l1) 0) fun (r1 : Sum (Unit) ((Bool))) => match r1 with | Sum.inl q1 => (some true) | Sum.inr v1 => some v1)

def m_laws_markInt64S_s1  (s1 : Int × Int × (List (Int))) : Option (Ctl (Int × Int × (List (Int))) (Int × (List (Int)))) :=
  match s1 with | (x1, x2, l1) => (bif decide (x2 < (((l1).length : Int))) then Option.bind (geti l1 x2) fun x3 => some (Ctl.next ((wr (x1 + 1), wr (x2 + 1), l1.set (Int.toNat x2) x1))) else some (Ctl.out ((x1, l1))))
noncomputable def m_laws_markInt64S (l0 : List (Int)) (p1 : Int) : Option ((Int) × (List (Int))) :=
  Option.bind (loopM (m_laws_markInt64S_s1) ((p1, 0, l0))) fun (r1 : Int × (List (Int))) => match r1 with | (x4, l2) => some ((x4, l2))

noncomputable def m_laws_markInt64SS_s1  (s1 : Int × Int × (List (List (Int)))) : Option (Ctl (Int × Int × (List (List (Int)))) (Int × (List (List (Int))))) :=
  match s1 with | (x1, x2, l1) => (bif decide (x2 < (((l1).length : Int))) then Option.bind (geti l1 x2) fun x3 => Option.bind (m_laws_markInt64S x3 x1) fun y1 => some (Ctl.next ((y1.1, wr (x2 + 1), l1.set (Int.toNat x2) y1.2))) else some (Ctl.out ((x1, l1))))
noncomputable def m_laws_markInt64SS (l0 : List (List (Int))) (p1 : Int) : Option ((Int) × (List (List (Int)))) :=
  Option.bind (loopM (m_laws_markInt64SS_s1) ((p1, 0, l0))) fun (r1 : Int × (List (List (Int)))) => match r1 with | (x4, l2) => some ((x4, l2))

noncomputable def m_laws_markMaze (l0_0 : List (List (Int))) (p1 : Int) : Option ((Int) × (List (List (Int)))) :=
  Option.bind (m_laws_markInt64SS l0_0 p1) fun y1 => some ((y1.1, y1.2))

def m_laws_markPointS_s1  (s1 : Int × Int × (List (Int × Int))) : Option (Ctl (Int × Int × (List (Int × Int))) (Int × (List (Int × Int)))) :=
  match s1 with | (x1, x2, l1) => (bif decide (x2 < (((l1).length : Int))) then Option.bind (geti l1 x2) fun x3 => Option.bind (geti (l1.set (Int.toNat x2) ((x1, x3.2))) x2) fun x4 => some (Ctl.next ((wr ((wr (x1 + 1)) + 1), wr (x2 + 1), (l1.set (Int.toNat x2) ((x1, x3.2))).set (Int.toNat x2) ((x4.1, wr (x1 + 1)))))) else some (Ctl.out ((x1, l1))))
noncomputable def m_laws_markPointS (l0 : List (Int × Int)) (p1 : Int) : Option ((Int) × (List (Int × Int))) :=
  Option.bind (loopM (m_laws_markPointS_s1) ((p1, 0, l0))) fun (r1 : Int × (List (Int × Int))) => match r1 with | (x5, l2) => some ((x5, l2))

def m_laws_heldPointS_s1 (l0 : List (Int × Int)) (s1 : Int × Int) : Option (Ctl (Int × Int) (Sum (Int) ((Int)))) :=
  match s1 with | (x1, x2) => (bif decide (x2 < (((l0).length : Int))) then Option.bind (geti l0 x2) fun x3 => (bif x3.1 != x1 then some (Ctl.out (Sum.inr ((-1)))) else Option.bind (geti l0 x2) fun x4 => (bif x4.2 != (wr (x1 + 1)) then some (Ctl.out (Sum.inr ((-1)))) else some (Ctl.next ((wr ((wr (x1 + 1)) + 1), wr (x2 + 1)))))) else some (Ctl.out (Sum.inl x1)))
noncomputable def m_laws_heldPointS (l0 : List (Int × Int)) (p1 : Int) : Option ((Int)) :=
  Option.bind (loopM (m_laws_heldPointS_s1 l0) ((p1, 0))) fun (r1 : Sum (Int) ((Int))) => match r1 with | Sum.inl q1 => ((fun (x5 : Int) => some x5) q1) | Sum.inr v1 => some v1

noncomputable def m_laws_FnExactFewestBlocks (l0_0 : List (List (Int))) (p1_0 : Int) (p1_1 : Int) (p2_0 : Int) (p2_1 : Int) : Option ((Bool)) :=
  Option.bind (m_laws_szMaze l0_0 1048576) fun y1 => (bif decide (y1 < 0) then some true else Option.bind (m_laws_toMaze l0_0) fun y2 => Option.bind (m_laws_toPoint p1_0 p1_1) fun y3 => Option.bind (m_laws_toPoint p2_0 p2_1) fun y4 => Option.bind (m_spec_FewestBlocks y2 y3.1 y3.2 y4.1 y4.2) fun y5 => Option.bind (m_laws_toMaze l0_0) fun y6 => Option.bind (m_laws_toPoint p1_0 p1_1) fun y7 => Option.bind (m_laws_toPoint p2_0 p2_1) fun y8 => Option.bind (m_impl_FewestBlocks y6 y7.1 y7.2 y8.1 y8.2) fun y9 => Option.bind (m_laws_eqPointS y9.1 y5.1) fun y10 => (bif !y10 then some false else (bif !(y9.2 == y5.2) then some false else Option.bind (m_laws_toMaze l0_0) fun y11 => Option.bind (m_laws_eqMaze y6 y11) fun y12 => (bif !y12 then some false else Option.bind (m_laws_markMaze y6 1) fun y13 => (bif decide (y13.1 < 0) then some false else Option.bind (m_laws_eqPointS y9.1 y5.1) fun y14 => (bif !y14 then some false else (bif !(y9.2 == y5.2) then some false else Option.bind (m_laws_markPointS y9.1 1) fun y15 => Option.bind (m_laws_heldPointS y15.2 1) fun y16 => (bif decide (y16 < 0) then some false else (bif y16 != y15.1 then some false else Option.bind (m_laws_toMaze l0_0) fun y17 => Option.bind (m_laws_toPoint p1_0 p1_1) fun y18 => Option.bind (m_laws_toPoint p2_0 p2_1) fun y19 => Option.bind (m_impl_FewestBlocks y17 y18.1 y18.2 y19.1 y19.2) fun y20 => Option.bind (m_laws_eqPointS y20.1 y5.1) fun y21 => (bif !y21 then some false else (bif !(y20.2 == y5.2) then some false else Option.bind (m_laws_heldPointS y15.2 1) fun y22 => (bif decide (y22 < 0) then some false else (bif y22 != y15.1 then some false else some true)))))))))))))

end Go.Proofs.Ytcknpoeannbpbaa
