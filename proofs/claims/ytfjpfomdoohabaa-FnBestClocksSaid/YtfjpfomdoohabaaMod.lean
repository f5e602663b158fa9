/- Printed models: what each function reckons, in plain Lean. -/
import Derived.Test.YtfjpfomdoohabaaGat
set_option linter.unusedSimpArgs false
set_option linter.unusedVariables false
namespace Go.Proofs.Ytfjpfomdoohabaa
open Go.RowKit

def m_laws_r8Long (l0 : List (Int)) (l1 : List (Int)) : Option ((Bool)) :=
  (bif decide ((((l0).length : Int)) > 48) then some true else some (decide ((((l1).length : Int)) > 48)))

def m_spec_l00From (l0 : List (Int)) : Option ((Int × Int)) :=
  some ((0, 0))

def m_spec_l00Src_next_bspecl00Src (l0_0 : List (Int)) (q0_1 : Int) (q0_2 : Int) : Option ((Int) × (Int) × (Int)) :=
  Option.bind ((bif decide (q0_1 < (((l0_0).length : Int))) then Option.bind (geti l0_0 q0_1) fun x1 => some (wr x1) else some 0)) fun (s1 : Int) => (fun (x2 : Int) => (bif decide ((wr (q0_1 + 1)) ≤ (((l0_0).length : Int))) then some ((x2, wr (q0_1 + 1), wu ((wu ((wu (q0_2 * 6364136223846793005)) + (wu x2))) + 1442695040888963407))) else some ((wr (andU (shrU (wu ((wu ((wu (q0_2 * 6364136223846793005)) + (wu x2))) + 1442695040888963407)) 40) 255), wr (q0_1 + 1), wu ((wu ((wu (q0_2 * 6364136223846793005)) + (wu x2))) + 1442695040888963407))))) s1

def m_spec_l00Src_pick_bspecl00Src (l0_0 : List (Int)) (q0_1 : Int) (q0_2 : Int) (p1 : Int) : Option ((Int) × (Int) × (Int)) :=
  (bif decide (p1 ≤ 1) then some ((0, q0_1, q0_2)) else Option.bind (m_spec_l00Src_next_bspecl00Src l0_0 q0_1 q0_2) fun y1 => Option.bind ((bif decide (p1 > 200) then Option.bind (m_spec_l00Src_next_bspecl00Src l0_0 y1.2.1 y1.2.2) fun y2 => some ((wr ((wr (y1.1 * 256)) + y2.1), y2.2.1, y2.2.2)) else some ((y1.1, y1.2.1, y1.2.2)))) fun (s1 : Int × Int × Int) => match s1 with | (x1, x2, x3) => Option.bind (nzC p1) fun u1 => some ((Int.tmod x1 p1, x2, x3)))

noncomputable def m_spec_R8Pins_s1 (l0 : List (Int)) (s1 : (List (Int × Int)) × Int × Int × Int) : Option (Ctl ((List (Int × Int)) × Int × Int × Int) ((List (Int × Int)))) :=
  match s1 with | (l1, x1, x2, x3) => (bif decide (x1 > 0) then Option.bind (m_spec_l00Src_pick_bspecl00Src l0 x2 x3 12) fun y1 => Option.bind (m_spec_l00Src_pick_bspecl00Src l0 y1.2.1 y1.2.2 12) fun y2 => Option.bind (apC l1 (([(y1.1, y2.1)] : List (Int × Int)))) fun _ => some (Ctl.next ((l1 ++ (([(y1.1, y2.1)] : List (Int × Int))), wr (x1 - 1), y2.2.1, y2.2.2))) else some (Ctl.out l1))
noncomputable def m_spec_R8Pins (l0 : List (Int)) (p1 : Int) : Option ((List (Int × Int))) :=
  Option.bind (m_spec_l00From l0) fun y3 => Option.bind (m_spec_l00Src_pick_bspecl00Src l0 y3.1 y3.2 (wr (p1 - 1))) fun y4 => Option.bind (loopM (m_spec_R8Pins_s1 l0) ((([] : List (Int × Int)), wr (2 + y4.1), y4.2.1, y4.2.2))) fun (r1 : (List (Int × Int))) => (fun (l2 : List (Int × Int)) => some l2) r1

def m_impl_in (p0 : Int) (p1 : Int) (p2 : Int) : Option ((Bool)) :=
  (bif decide (p0 ≥ p1) then some (decide (p0 ≤ p2)) else some false)

def m_impl_IsPoint (p0_0 : Int) (p0_1 : Int) : Option ((Bool)) :=
  Option.bind (m_impl_in p0_0 0 99) fun y1 => (bif y1 then Option.bind (m_impl_in p0_1 0 99) fun y2 => some y2 else some false)

def m_impl_noPoint (p0_0 : Int) (p0_1 : Int) : Option ((Bool)) :=
  Option.bind (m_impl_IsPoint p0_0 p0_1) fun y1 => some (!y1)

def m_slices_IndexFunc_impl_Point_impl_Point_impl_noPoint_s1 (l0 : List (Int × Int)) (s1 : Int) : Option (Ctl (Int) (Sum (Unit) ((Int)))) :=
  (fun (x1 : Int) => (bif decide (x1 < (((l0).length : Int))) then Option.bind (geti l0 x1) fun x2 => Option.bind (m_impl_noPoint x2.1 x2.2) fun y1 => (bif y1 then some (Ctl.out (Sum.inr x1)) else some (Ctl.next (wr (x1 + 1)))) else some (Ctl.out (Sum.inl (()))))) s1
noncomputable def m_slices_IndexFunc_impl_Point_impl_Point_impl_noPoint (l0 : List (Int × Int)) : Option ((Int)) :=
  Option.bind (loopM (m_slices_IndexFunc_impl_Point_impl_Point_impl_noPoint_s1 l0) 0) fun (r1 : Sum (Unit) ((Int))) => match r1 with | Sum.inl q1 => (some ((-1))) | Sum.inr v1 => some v1

noncomputable def m_slices_ContainsFunc_impl_Point_impl_Point_impl_noPoint (l0 : List (Int × Int)) : Option ((Bool)) :=
  Option.bind (m_slices_IndexFunc_impl_Point_impl_Point_impl_noPoint l0) fun y1 => some (decide (y1 ≥ 0))

noncomputable def m_impl_clockPins (l0 : List (Int × Int)) : Option ((Bool)) :=
  Option.bind (m_impl_in (((l0).length : Int)) 2 12) fun y1 => (bif y1 then Option.bind (m_slices_ContainsFunc_impl_Point_impl_Point_impl_noPoint l0) fun y2 => some (!y2) else some false)

def m_impl_leaf (p0_0 : Int) (p0_1 : Int) : Option ((Int × Int × Int × Int)) :=
  some ((wr ((wr (p0_0 + p0_1)) * 4096), wr ((wr (p0_0 + p0_1)) * 4096), wr ((wr (p0_0 - p0_1)) * 4096), wr ((wr (p0_0 - p0_1)) * 4096)))

def m_impl_Region_far (p0_0 : Int) (p0_1 : Int) (p0_2 : Int) (p0_3 : Int) (p1_0 : Int) (p1_1 : Int) (p1_2 : Int) (p1_3 : Int) : Option ((Int)) :=
  some (if (wr (p1_2 - p0_3)) > (if (wr (p0_2 - p1_3)) > (if (wr (p1_0 - p0_1)) > (if (wr (p0_0 - p1_1)) > 0 then (wr (p0_0 - p1_1)) else 0) then (wr (p1_0 - p0_1)) else (if (wr (p0_0 - p1_1)) > 0 then (wr (p0_0 - p1_1)) else 0)) then (wr (p0_2 - p1_3)) else (if (wr (p1_0 - p0_1)) > (if (wr (p0_0 - p1_1)) > 0 then (wr (p0_0 - p1_1)) else 0) then (wr (p1_0 - p0_1)) else (if (wr (p0_0 - p1_1)) > 0 then (wr (p0_0 - p1_1)) else 0))) then (wr (p1_2 - p0_3)) else (if (wr (p0_2 - p1_3)) > (if (wr (p1_0 - p0_1)) > (if (wr (p0_0 - p1_1)) > 0 then (wr (p0_0 - p1_1)) else 0) then (wr (p1_0 - p0_1)) else (if (wr (p0_0 - p1_1)) > 0 then (wr (p0_0 - p1_1)) else 0)) then (wr (p0_2 - p1_3)) else (if (wr (p1_0 - p0_1)) > (if (wr (p0_0 - p1_1)) > 0 then (wr (p0_0 - p1_1)) else 0) then (wr (p1_0 - p0_1)) else (if (wr (p0_0 - p1_1)) > 0 then (wr (p0_0 - p1_1)) else 0))))

def m_impl_size (p0 : Int) : Option ((Int)) :=
  some (if (wr (0 - p0)) > p0 then (wr (0 - p0)) else p0)

def m_impl_Region_grown (p0_0 : Int) (p0_1 : Int) (p0_2 : Int) (p0_3 : Int) (p1 : Int) : Option ((Int × Int × Int × Int)) :=
  some ((wr (p0_0 - p1), wr (p0_1 + p1), wr (p0_2 - p1), wr (p0_3 + p1)))

def m_impl_Region_meet (p0_0 : Int) (p0_1 : Int) (p0_2 : Int) (p0_3 : Int) (p1_0 : Int) (p1_1 : Int) (p1_2 : Int) (p1_3 : Int) : Option ((Int × Int × Int × Int) × (Bool)) :=
  (bif decide ((if p1_0 > p0_0 then p1_0 else p0_0) ≤ (if p1_1 < p0_1 then p1_1 else p0_1)) then some (((if p1_0 > p0_0 then p1_0 else p0_0, if p1_1 < p0_1 then p1_1 else p0_1, if p1_2 > p0_2 then p1_2 else p0_2, if p1_3 < p0_3 then p1_3 else p0_3), decide ((if p1_2 > p0_2 then p1_2 else p0_2) ≤ (if p1_3 < p0_3 then p1_3 else p0_3)))) else some (((if p1_0 > p0_0 then p1_0 else p0_0, if p1_1 < p0_1 then p1_1 else p0_1, if p1_2 > p0_2 then p1_2 else p0_2, if p1_3 < p0_3 then p1_3 else p0_3), false)))

def m_impl_ValidRegion (p0_0 : Int) (p0_1 : Int) (p0_2 : Int) (p0_3 : Int) : Option ((Bool)) :=
  Option.bind (m_impl_in p0_0 ((-1000000000)) p0_1) fun y1 => (bif y1 then Option.bind (m_impl_in p0_2 ((-1000000000)) p0_3) fun y2 => (bif y2 then (bif decide (p0_1 ≤ 1000000000) then some (decide (p0_3 ≤ 1000000000)) else some false) else some false) else some false)

def m_impl_mergeOk (p0_0 : Int) (p0_1 : Int) (p0_2 : Int) (p0_3 : Int) (p0_4 : Int) : Option ((Bool)) :=
  Option.bind (m_impl_ValidRegion p0_0 p0_1 p0_2 p0_3) fun y1 => (bif y1 then Option.bind (m_impl_in p0_4 0 1000000000) fun y2 => some y2 else some false)

def m_impl_merge (p0_0 : Int) (p0_1 : Int) (p0_2 : Int) (p0_3 : Int) (p0_4 : Int) (p1_0 : Int) (p1_1 : Int) (p1_2 : Int) (p1_3 : Int) (p1_4 : Int) : Option ((Int × Int × Int × Int × Int) × (Int) × (Int) × (Bool)) :=
  Option.bind (m_impl_Region_far p0_0 p0_1 p0_2 p0_3 p1_0 p1_1 p1_2 p1_3) fun y1 => Option.bind (m_impl_size (wr (p0_4 - p1_4))) fun y2 => (bif decide (y2 ≤ y1) then (bif (Int.tmod (wr ((wr (y1 + p1_4)) - p0_4)) 2) != 0 then some (((0, 0, 0, 0, 0), 0, 0, false)) else Option.bind (Option.bind (m_impl_Region_grown p0_0 p0_1 p0_2 p0_3 (wr (Int.tdiv (wr ((wr (y1 + p1_4)) - p0_4)) 2))) fun y3 => Option.bind (m_impl_Region_grown p1_0 p1_1 p1_2 p1_3 (wr (y1 - (wr (Int.tdiv (wr ((wr (y1 + p1_4)) - p0_4)) 2))))) fun y4 => Option.bind (m_impl_Region_meet y3.1 y3.2.1 y3.2.2.1 y3.2.2.2 y4.1 y4.2.1 y4.2.2.1 y4.2.2.2) fun y5 => some ((y5.1.1, y5.1.2.1, y5.1.2.2.1, y5.1.2.2.2, y5.2))) fun (s1 : Int × Int × Int × Int × Bool) => match s1 with | (x1, x2, x3, x4, x5) => (bif !x5 then some (((0, 0, 0, 0, 0), 0, 0, false)) else Option.bind (m_impl_mergeOk x1 x2 x3 x4 (wr (p0_4 + (wr (Int.tdiv (wr ((wr (y1 + p1_4)) - p0_4)) 2))))) fun y6 => (bif !y6 then some (((0, 0, 0, 0, 0), 0, 0, false)) else some (((x1, x2, x3, x4, wr (p0_4 + (wr (Int.tdiv (wr ((wr (y1 + p1_4)) - p0_4)) 2)))), wr (Int.tdiv (wr ((wr (y1 + p1_4)) - p0_4)) 2), wr (y1 - (wr (Int.tdiv (wr ((wr (y1 + p1_4)) - p0_4)) 2))), true))))) else Option.bind (Option.bind (m_impl_Region_grown p0_0 p0_1 p0_2 p0_3 (if 0 > (wr (p1_4 - p0_4)) then 0 else (wr (p1_4 - p0_4)))) fun y7 => Option.bind (m_impl_Region_grown p1_0 p1_1 p1_2 p1_3 (if 0 > (wr (p0_4 - p1_4)) then 0 else (wr (p0_4 - p1_4)))) fun y8 => Option.bind (m_impl_Region_meet y7.1 y7.2.1 y7.2.2.1 y7.2.2.2 y8.1 y8.2.1 y8.2.2.1 y8.2.2.2) fun y9 => some ((y9.1.1, y9.1.2.1, y9.1.2.2.1, y9.1.2.2.2, y9.2))) fun (s2 : Int × Int × Int × Int × Bool) => match s2 with | (x6, x7, x8, x9, x10) => (bif !x10 then some (((0, 0, 0, 0, 0), 0, 0, false)) else Option.bind (m_impl_mergeOk x6 x7 x8 x9 (wr (p0_4 + (if 0 > (wr (p1_4 - p0_4)) then 0 else (wr (p1_4 - p0_4)))))) fun y10 => (bif !y10 then some (((0, 0, 0, 0, 0), 0, 0, false)) else some (((x6, x7, x8, x9, wr (p0_4 + (if 0 > (wr (p1_4 - p0_4)) then 0 else (wr (p1_4 - p0_4))))), if 0 > (wr (p1_4 - p0_4)) then 0 else (wr (p1_4 - p0_4)), if 0 > (wr (p0_4 - p1_4)) then 0 else (wr (p0_4 - p1_4)), true)))))

def m_slices_Clone_int64_int64_rows (l0 : List (List (Int))) : Option ((List (List (Int)))) :=
  Option.bind (apC (([] : List (List (Int)))) l0) fun _ => some ((([] : List (List (Int)))) ++ l0)

def m_slices_Clone_int64_int64 (l0 : List (Int)) : Option ((List (Int))) :=
  Option.bind (apC (([] : List (Int))) l0) fun _ => some ((([] : List (Int))) ++ l0)

def m_slices_Clone_H (l0 : List (Hd)) : Option ((List (Hd))) :=
  Option.bind (apC (([] : List (Hd))) l0) fun _ => some ((([] : List (Hd))) ++ l0)


def m_impl_chooser_choose_1_bint64_bint64 (p0 : Int) (q1_0 : Int) (q2_0 : Int) : Option ((Bool)) :=
  (bif p0 == q1_0 then some true else some (p0 == q2_0))

def m_slices_IndexFunc_int64_int64_impl_chooser_choose_1_bint64_bint64_s1 (l0 : List (Int)) (q1_0_0 : Int) (q1_1_0 : Int) (s1 : Int) : Option (Ctl (Int) (Sum (Unit) ((Int)))) :=
  (fun (x1 : Int) => (bif decide (x1 < (((l0).length : Int))) then Option.bind (geti l0 x1) fun x2 => Option.bind (m_impl_chooser_choose_1_bint64_bint64 x2 q1_0_0 q1_1_0) fun y1 => (bif y1 then some (Ctl.out (Sum.inr x1)) else some (Ctl.next (wr (x1 + 1)))) else some (Ctl.out (Sum.inl (()))))) s1
noncomputable def m_slices_IndexFunc_int64_int64_impl_chooser_choose_1_bint64_bint64 (l0 : List (Int)) (q1_0_0 : Int) (q1_1_0 : Int) : Option ((Int)) :=
  Option.bind (loopM (m_slices_IndexFunc_int64_int64_impl_chooser_choose_1_bint64_bint64_s1 l0 q1_0_0 q1_1_0) 0) fun (r1 : Sum (Unit) ((Int))) => match r1 with | Sum.inl q1 => (some ((-1))) | Sum.inr v1 => some v1

noncomputable def m_slices_DeleteFunc_int64_int64_impl_chooser_choose_1_bint64_bint64_s1 (q1_0_0 : Int) (q1_1_0 : Int) (s1 : Int × Int × (List (Int))) : Option (Ctl (Int × Int × (List (Int))) (Int × (List (Int)))) :=
  match s1 with | (x1, x2, l1) => (bif decide (x2 < (((l1).length : Int))) then Option.bind (Option.bind (geti l1 x2) fun x3 => Option.bind (m_impl_chooser_choose_1_bint64_bint64 x3 q1_0_0 q1_1_0) fun y1 => (bif !y1 then Option.bind (geti l1 x1) fun x4 => some ((wr (x1 + 1), l1.set (Int.toNat x1) x3)) else some ((x1, l1)))) fun (s2 : Int × (List (Int))) => match s2 with | (x5, l2) => some (Ctl.next ((x5, wr (x2 + 1), l2))) else some (Ctl.out ((x1, l1))))
noncomputable def m_slices_DeleteFunc_int64_int64_impl_chooser_choose_1_bint64_bint64 (l0 : List (Int)) (q1_0_0 : Int) (q1_1_0 : Int) : Option ((List (Int))) :=
  Option.bind (m_slices_IndexFunc_int64_int64_impl_chooser_choose_1_bint64_bint64 l0 q1_0_0 q1_1_0) fun y2 => (bif y2 == ((-1)) then some l0 else Option.bind (loopM (m_slices_DeleteFunc_int64_int64_impl_chooser_choose_1_bint64_bint64_s1 q1_0_0 q1_1_0) ((y2, wr (y2 + 1), l0))) fun (r1 : Int × (List (Int))) => match r1 with | (x6, l3) => Option.bind (slci l3 x6 (((l3).length : Int))) fun _ => Option.bind (slci (clr (0 : Int) l3 x6) 0 x6) fun _ => some ((clr (0 : Int) l3 x6).take (Int.toNat x6)))

noncomputable def m_impl_chooser_choose_bimplchooser_s4 (R : (List (Int × Int × Int × Int × Int)) → (List (List (Int))) → (List (List (Int))) → (Bool) → (Int) → (List (Int)) → (Int) → Option ((Int) × (List (Int × Int × Int × Int × Int)) × (List (List (Int))) × (List (List (Int))) × (Bool))) (l1 : List (Int)) (p2 : Int) (x1 : Int) (y1 : List (Int)) (s1 : Int × (List (Int × Int × Int × Int × Int)) × (List (List (Int))) × (List (List (Int))) × Bool × Int) : Option (Ctl (Int × (List (Int × Int × Int × Int × Int)) × (List (List (Int))) × (List (List (Int))) × Bool × Int) ((List (Int × Int × Int × Int × Int)) × (List (List (Int))) × (List (List (Int))) × Bool × Int)) :=
  match s1 with | (x2, l2, l3, l4, z1, x3) => (bif decide (x2 < (((y1).length : Int))) then Option.bind (geti y1 x2) fun x4 => Option.bind (Option.bind (geti l2 x1) fun x5 => Option.bind (geti l2 x4) fun x6 => Option.bind (m_impl_merge x5.1 x5.2.1 x5.2.2.1 x5.2.2.2.1 x5.2.2.2.2 x6.1 x6.2.1 x6.2.2.1 x6.2.2.2.1 x6.2.2.2.2) fun y2 => some ((y2.1.1, y2.1.2.1, y2.1.2.2.1, y2.1.2.2.2.1, y2.1.2.2.2.2, y2.2.1, y2.2.2.1, y2.2.2.2))) fun (s2 : Int × Int × Int × Int × Int × Int × Int × Bool) => match s2 with | (x7, x8, x9, x10, x11, x12, x13, x14) => (bif !x14 then some (Ctl.next ((wr (x2 + 1), l2, l3, l4, z1, x3))) else Option.bind (m_slices_Clone_int64_int64 l1) fun y3 => Option.bind (m_slices_DeleteFunc_int64_int64_impl_chooser_choose_1_bint64_bint64 y3 x1 x4) fun y4 => Option.bind (apC y4 (([((l2).length : Int)] : List (Int)))) fun _ => Option.bind (Option.bind (apC l2 (([(x7, x8, x9, x10, x11)] : List (Int × Int × Int × Int × Int)))) fun _ => Option.bind (apC l3 (([([x1, x4] : List (Int))] : List (List (Int))))) fun _ => some ((l2 ++ (([(x7, x8, x9, x10, x11)] : List (Int × Int × Int × Int × Int))), l3 ++ (([([x1, x4] : List (Int))] : List (List (Int))))))) fun (s3 : (List (Int × Int × Int × Int × Int)) × (List (List (Int)))) => match s3 with | (l5, l6) => Option.bind (R l5 l6 l4 z1 x3 (y4 ++ (([((l2).length : Int)] : List (Int)))) (wr ((wr (p2 + x12)) + x13))) fun y5 => Option.bind (slci y5.2.1 0 (wr ((((y5.2.1).length : Int)) - 1))) fun _ => Option.bind (slci y5.2.2.1 0 (wr ((((y5.2.2.1).length : Int)) - 1))) fun _ => some (Ctl.next ((wr (x2 + 1), y5.2.1.take (Int.toNat (wr ((((y5.2.1).length : Int)) - 1))), y5.2.2.1.take (Int.toNat (wr ((((y5.2.2.1).length : Int)) - 1))), y5.2.2.2.1, y5.2.2.2.2, y5.1)))) else some (Ctl.out ((l2, l3, l4, z1, x3))))
noncomputable def m_impl_chooser_choose_bimplchooser_s3 (R : (List (Int × Int × Int × Int × Int)) → (List (List (Int))) → (List (List (Int))) → (Bool) → (Int) → (List (Int)) → (Int) → Option ((Int) × (List (Int × Int × Int × Int × Int)) × (List (List (Int))) × (List (List (Int))) × (Bool))) (l1 : List (Int)) (p2 : Int) (s4 : Int × (List (Int × Int × Int × Int × Int)) × (List (List (Int))) × (List (List (Int))) × Bool × Int) : Option (Ctl (Int × (List (Int × Int × Int × Int × Int)) × (List (List (Int))) × (List (List (Int))) × Bool × Int) ((List (Int × Int × Int × Int × Int)) × (List (List (Int))) × (List (List (Int))) × Bool × Int)) :=
  match s4 with | (x15, l7, l8, l9, z2, x16) => (bif decide (x15 < (((l1).length : Int))) then Option.bind (geti l1 x15) fun x1 => Option.bind (slci l1 (wr (x15 + 1)) (((l1).length : Int))) fun y1 => Option.bind (loopM (m_impl_chooser_choose_bimplchooser_s4 R l1 p2 x1 y1) ((0, l7, l8, l9, z2, x16))) fun (r1 : (List (Int × Int × Int × Int × Int)) × (List (List (Int))) × (List (List (Int))) × Bool × Int) => match r1 with | (l10, l11, l12, z3, x17) => some (Ctl.next ((wr (x15 + 1), l10, l11, l12, z3, x17))) else some (Ctl.out ((l7, l8, l9, z2, x16))))
noncomputable def m_impl_chooser_choose_bimplchooser_body (R : (List (Int × Int × Int × Int × Int)) → (List (List (Int))) → (List (List (Int))) → (Bool) → (Int) → (List (Int)) → (Int) → Option ((Int) × (List (Int × Int × Int × Int × Int)) × (List (List (Int))) × (List (List (Int))) × (Bool))) (l0_0 : List (Int × Int × Int × Int × Int)) (l0_1 : List (List (Int))) (l0_2 : List (List (Int))) (z0_2 : Bool) (q0_3 : Int) (l1 : List (Int)) (p2 : Int) : Option ((Int) × (List (Int × Int × Int × Int × Int)) × (List (List (Int))) × (List (List (Int))) × (Bool)) :=
  (bif (((l1).length : Int)) == 1 then Option.bind ((bif z0_2 then Option.bind (neC (l0_1 : List (List (Int)))) fun _ => Option.bind (apC ([] : List (List (Int))) (l0_1 : List (List (Int)))) fun _ => some ((l0_1, false, p2)) else (bif decide (p2 < q0_3) then Option.bind (neC (l0_1 : List (List (Int)))) fun _ => Option.bind (apC ([] : List (List (Int))) (l0_1 : List (List (Int)))) fun _ => some ((l0_1, false, p2)) else some ((l0_2, z0_2, q0_3))))) fun (s5 : (List (List (Int))) × Bool × Int) => match s5 with | (l13, z4, x18) => some ((x18, l0_0, l0_1, l13, z4)) else Option.bind (loopM (m_impl_chooser_choose_bimplchooser_s3 R l1 p2) ((0, l0_0, l0_1, l0_2, z0_2, q0_3))) fun (r2 : (List (Int × Int × Int × Int × Int)) × (List (List (Int))) × (List (List (Int))) × Bool × Int) => match r2 with | (l14, l15, l16, z5, x19) => some ((x19, l14, l15, l16, z5)))
noncomputable def m_impl_chooser_choose_bimplchooser : Nat → (List (Int × Int × Int × Int × Int)) → (List (List (Int))) → (List (List (Int))) → (Bool) → (Int) → (List (Int)) → (Int) → Option ((Int) × (List (Int × Int × Int × Int × Int)) × (List (List (Int))) × (List (List (Int))) × (Bool))
  | 0, _, _, _, _, _, _, _ => none
  | n + 1, l0_0, l0_1, l0_2, z0_2, q0_3, l1, p2 => m_impl_chooser_choose_bimplchooser_body (m_impl_chooser_choose_bimplchooser n) l0_0 l0_1 l0_2 z0_2 q0_3 l1 p2

noncomputable def m_impl_BestJoins_s1 (l0 : List (Int × Int)) (s1 : (List (Int)) × Int × (List (Int × Int × Int × Int × Int))) : Option (Ctl ((List (Int)) × Int × (List (Int × Int × Int × Int × Int))) ((List (Int)) × (List (Int × Int × Int × Int × Int)))) :=
  match s1 with | (l1, x1, l2) => (bif decide (x1 < (((l0).length : Int))) then Option.bind (geti l0 x1) fun x2 => Option.bind (Option.bind (m_impl_leaf x2.1 x2.2) fun y1 => Option.bind (apC l2 (([(y1.1, y1.2.1, y1.2.2.1, y1.2.2.2, 0)] : List (Int × Int × Int × Int × Int)))) fun _ => Option.bind (apC l1 (([x1] : List (Int)))) fun _ => some ((l1 ++ (([x1] : List (Int))), l2 ++ (([(y1.1, y1.2.1, y1.2.2.1, y1.2.2.2, 0)] : List (Int × Int × Int × Int × Int)))))) fun (s2 : (List (Int)) × (List (Int × Int × Int × Int × Int))) => match s2 with | (l3, l4) => some (Ctl.next ((l3, wr (x1 + 1), l4))) else some (Ctl.out ((l1, l2))))
noncomputable def m_impl_BestJoins (l0 : List (Int × Int)) : Option ((List (List (Int))) × (Int) × (Bool)) :=
  Option.bind (m_impl_clockPins l0) fun y2 => (bif !y2 then some (([], 0, false)) else (bif decide ((((l0).length : Int)) > 5) then some (([], 0, false)) else Option.bind (loopM (m_impl_BestJoins_s1 l0) ((([] : List (Int)), 0, ([] : List (Int × Int × Int × Int × Int))))) fun (r1 : (List (Int)) × (List (Int × Int × Int × Int × Int))) => match r1 with | (l5, l6) => Option.bind (m_impl_chooser_choose_bimplchooser 64 l6 (([] : List (List (Int)))) (([] : List (List (Int)))) true 0 l5 0) fun y3 => (bif y3.2.2.2.2 then some (([], 0, false)) else some ((y3.2.2.2.1, y3.1, true)))))

def m_impl_NearestJoins_1_bint_bint (p0 : Int) (q1_0 : Int) (q2_0 : Int) : Option ((Bool)) :=
  (bif p0 == q1_0 then some true else some (p0 == q2_0))

def m_slices_IndexFunc_int_int_impl_NearestJoins_1_bint_bint_s1 (l0 : List (Int)) (q1_0_0 : Int) (q1_1_0 : Int) (s1 : Int) : Option (Ctl (Int) (Sum (Unit) ((Int)))) :=
  (fun (x1 : Int) => (bif decide (x1 < (((l0).length : Int))) then Option.bind (geti l0 x1) fun x2 => Option.bind (m_impl_NearestJoins_1_bint_bint x2 q1_0_0 q1_1_0) fun y1 => (bif y1 then some (Ctl.out (Sum.inr x1)) else some (Ctl.next (wr (x1 + 1)))) else some (Ctl.out (Sum.inl (()))))) s1
noncomputable def m_slices_IndexFunc_int_int_impl_NearestJoins_1_bint_bint (l0 : List (Int)) (q1_0_0 : Int) (q1_1_0 : Int) : Option ((Int)) :=
  Option.bind (loopM (m_slices_IndexFunc_int_int_impl_NearestJoins_1_bint_bint_s1 l0 q1_0_0 q1_1_0) 0) fun (r1 : Sum (Unit) ((Int))) => match r1 with | Sum.inl q1 => (some ((-1))) | Sum.inr v1 => some v1

noncomputable def m_slices_DeleteFunc_int_int_impl_NearestJoins_1_bint_bint_s1 (q1_0_0 : Int) (q1_1_0 : Int) (s1 : Int × Int × (List (Int))) : Option (Ctl (Int × Int × (List (Int))) (Int × (List (Int)))) :=
  match s1 with | (x1, x2, l1) => (bif decide (x2 < (((l1).length : Int))) then Option.bind (Option.bind (geti l1 x2) fun x3 => Option.bind (m_impl_NearestJoins_1_bint_bint x3 q1_0_0 q1_1_0) fun y1 => (bif !y1 then Option.bind (geti l1 x1) fun x4 => some ((wr (x1 + 1), l1.set (Int.toNat x1) x3)) else some ((x1, l1)))) fun (s2 : Int × (List (Int))) => match s2 with | (x5, l2) => some (Ctl.next ((x5, wr (x2 + 1), l2))) else some (Ctl.out ((x1, l1))))
noncomputable def m_slices_DeleteFunc_int_int_impl_NearestJoins_1_bint_bint (l0 : List (Int)) (q1_0_0 : Int) (q1_1_0 : Int) : Option ((List (Int))) :=
  Option.bind (m_slices_IndexFunc_int_int_impl_NearestJoins_1_bint_bint l0 q1_0_0 q1_1_0) fun y2 => (bif y2 == ((-1)) then some l0 else Option.bind (loopM (m_slices_DeleteFunc_int_int_impl_NearestJoins_1_bint_bint_s1 q1_0_0 q1_1_0) ((y2, wr (y2 + 1), l0))) fun (r1 : Int × (List (Int))) => match r1 with | (x6, l3) => Option.bind (slci l3 x6 (((l3).length : Int))) fun _ => Option.bind (slci (clr (0 : Int) l3 x6) 0 x6) fun _ => some ((clr (0 : Int) l3 x6).take (Int.toNat x6)))

noncomputable def m_impl_NearestJoins_s14 (l1 : List (Int × Int × Int × Int × Int)) (l2 : List (Int)) (x1 : Int) (x2 : Int) (s1 : Int × Int × Int) : Option (Ctl (Int × Int × Int) (Int × Int)) :=
  match s1 with | (x3, x4, x5) => (bif decide (x3 < (((slc l2 (wr (x1 + 1)) (((l2).length : Int))).length : Int))) then Option.bind (Option.bind (geti (slc l2 (wr (x1 + 1)) (((l2).length : Int))) x3) fun x6 => Option.bind (geti l1 x2) fun x7 => Option.bind (geti l1 x6) fun x8 => Option.bind (geti l1 x4) fun x9 => Option.bind (geti l1 x5) fun x10 => Option.bind (m_impl_Region_far x7.1 x7.2.1 x7.2.2.1 x7.2.2.2.1 x8.1 x8.2.1 x8.2.2.1 x8.2.2.2.1) fun y1 => Option.bind (m_impl_Region_far x9.1 x9.2.1 x9.2.2.1 x9.2.2.2.1 x10.1 x10.2.1 x10.2.2.1 x10.2.2.2.1) fun y2 => (bif decide (y1 < y2) then some ((x2, x6)) else some ((x4, x5)))) fun (s2 : Int × Int) => match s2 with | (x11, x12) => some (Ctl.next ((wr (x3 + 1), x11, x12))) else some (Ctl.out ((x4, x5))))
noncomputable def m_impl_NearestJoins_s13 (l1 : List (Int × Int × Int × Int × Int)) (l2 : List (Int)) (s3 : Int × Int × Int) : Option (Ctl (Int × Int × Int) (Int × Int)) :=
  match s3 with | (x1, x13, x14) => (bif decide (x1 < (((l2).length : Int))) then Option.bind (geti l2 x1) fun x2 => Option.bind (slci l2 (wr (x1 + 1)) (((l2).length : Int))) fun _ => Option.bind (loopM (m_impl_NearestJoins_s14 l1 l2 x1 x2) ((0, x13, x14))) fun (r1 : Int × Int) => match r1 with | (x15, x16) => some (Ctl.next ((wr (x1 + 1), x15, x16))) else some (Ctl.out ((x13, x14))))
noncomputable def m_impl_NearestJoins_s10  (s4 : (List (Int × Int × Int × Int × Int)) × (List (Int)) × (List (List (Int)))) : Option (Ctl ((List (Int × Int × Int × Int × Int)) × (List (Int)) × (List (List (Int)))) (Sum ((List (List (Int)))) ((List (List (Int))) × (Bool)))) :=
  match s4 with | (l1, l2, l3) => (bif decide ((((l2).length : Int)) > 1) then Option.bind (Option.bind (geti l2 0) fun x17 => Option.bind (geti l2 1) fun x18 => some ((x17, x18))) fun (s5 : Int × Int) => match s5 with | (x19, x20) => Option.bind (loopM (m_impl_NearestJoins_s13 l1 l2) ((0, x19, x20))) fun (r2 : Int × Int) => match r2 with | (x21, x22) => Option.bind (Option.bind (geti l1 x21) fun x23 => Option.bind (geti l1 x22) fun x24 => Option.bind (m_impl_merge x23.1 x23.2.1 x23.2.2.1 x23.2.2.2.1 x23.2.2.2.2 x24.1 x24.2.1 x24.2.2.1 x24.2.2.2.1 x24.2.2.2.2) fun y3 => some ((y3.1.1, y3.1.2.1, y3.1.2.2.1, y3.1.2.2.2.1, y3.1.2.2.2.2, y3.2.2.2))) fun (s6 : Int × Int × Int × Int × Int × Bool) => match s6 with | (x25, x26, x27, x28, x29, x30) => (bif !x30 then some (Ctl.out (Sum.inr (([], false)))) else Option.bind (m_slices_DeleteFunc_int_int_impl_NearestJoins_1_bint_bint l2 x21 x22) fun y4 => Option.bind (apC y4 (([((l1).length : Int)] : List (Int)))) fun _ => Option.bind (Option.bind (apC l1 (([(x25, x26, x27, x28, x29)] : List (Int × Int × Int × Int × Int)))) fun _ => Option.bind (apC l3 (([([x21, x22] : List (Int))] : List (List (Int))))) fun _ => some ((l1 ++ (([(x25, x26, x27, x28, x29)] : List (Int × Int × Int × Int × Int))), l3 ++ (([([x21, x22] : List (Int))] : List (List (Int))))))) fun (s7 : (List (Int × Int × Int × Int × Int)) × (List (List (Int)))) => match s7 with | (l4, l5) => some (Ctl.next ((l4, y4 ++ (([((l1).length : Int)] : List (Int))), l5)))) else some (Ctl.out (Sum.inl l3)))
noncomputable def m_impl_NearestJoins_s1 (l0 : List (Int × Int)) (s8 : (List (Int × Int × Int × Int × Int)) × (List (Int)) × Int) : Option (Ctl ((List (Int × Int × Int × Int × Int)) × (List (Int)) × Int) ((List (Int × Int × Int × Int × Int)) × (List (Int)))) :=
  match s8 with | (l6, l7, x31) => (bif decide (x31 < (((l0).length : Int))) then Option.bind (geti l0 x31) fun x32 => Option.bind (m_impl_leaf x32.1 x32.2) fun y5 => Option.bind (apC l6 (([(y5.1, y5.2.1, y5.2.2.1, y5.2.2.2, 0)] : List (Int × Int × Int × Int × Int)))) fun _ => Option.bind (apC l7 (([x31] : List (Int)))) fun _ => some (Ctl.next ((l6 ++ (([(y5.1, y5.2.1, y5.2.2.1, y5.2.2.2, 0)] : List (Int × Int × Int × Int × Int))), l7 ++ (([x31] : List (Int))), wr (x31 + 1)))) else some (Ctl.out ((l6, l7))))
noncomputable def m_impl_NearestJoins (l0 : List (Int × Int)) : Option ((List (List (Int))) × (Bool)) :=
  Option.bind (m_impl_clockPins l0) fun y6 => (bif !y6 then some (([], false)) else Option.bind (loopM (m_impl_NearestJoins_s1 l0) ((([] : List (Int × Int × Int × Int × Int)), ([] : List (Int)), 0))) fun (r3 : (List (Int × Int × Int × Int × Int)) × (List (Int))) => match r3 with | (l8, l9) => Option.bind (loopM (m_impl_NearestJoins_s10) ((l8, l9, ([] : List (List (Int)))))) fun (r4 : Sum ((List (List (Int)))) ((List (List (Int))) × (Bool))) => match r4 with | Sum.inl q1 => ((fun (l10 : List (List (Int))) => some ((l10, true))) q1) | Sum.inr v1 => some v1)

def m_spec_R8Joins_s5 (l1 : List (Int)) (y1 : (Int) × (Int) × (Int)) (y2 : (Int) × (Int) × (Int)) (s1 : (List (Int)) × Int) : Option (Ctl ((List (Int)) × Int) ((List (Int)))) :=
  match s1 with | (l2, x1) => (bif decide (x1 < (((l1).length : Int))) then Option.bind ((bif x1 != y1.1 then (bif x1 != (wr ((wr (y1.1 + 1)) + y2.1)) then Option.bind (geti l1 x1) fun x2 => Option.bind (apC l2 (([x2] : List (Int)))) fun _ => some (l2 ++ (([x2] : List (Int)))) else some l2) else some l2)) fun (s2 : (List (Int))) => (fun (l3 : List (Int)) => some (Ctl.next ((l3, wr (x1 + 1))))) s2 else some (Ctl.out l2))
noncomputable def m_spec_R8Joins_s4 (l0 : List (Int)) (p1 : Int) (s3 : (List (List (Int))) × (List (Int)) × Int × Int) : Option (Ctl ((List (List (Int))) × (List (Int)) × Int × Int) ((List (List (Int))))) :=
  match s3 with | (l4, l1, x3, x4) => (bif decide ((((l1).length : Int)) > 1) then Option.bind (m_spec_l00Src_pick_bspecl00Src l0 x3 x4 (wr ((((l1).length : Int)) - 1))) fun y1 => Option.bind (m_spec_l00Src_pick_bspecl00Src l0 y1.2.1 y1.2.2 (wr ((wr ((((l1).length : Int)) - 1)) - y1.1))) fun y2 => Option.bind (loopM (m_spec_R8Joins_s5 l1 y1 y2) ((([] : List (Int)), 0))) fun (r1 : (List (Int))) => (fun (l5 : List (Int)) => Option.bind (apC l5 (([wr (p1 + (((l4).length : Int)))] : List (Int)))) fun _ => Option.bind (geti l1 y1.1) fun x5 => Option.bind (geti l1 (wr ((wr (y1.1 + 1)) + y2.1))) fun x6 => Option.bind (apC l4 (([([x5, x6] : List (Int))] : List (List (Int))))) fun _ => some (Ctl.next ((l4 ++ (([([x5, x6] : List (Int))] : List (List (Int)))), l5 ++ (([wr (p1 + (((l4).length : Int)))] : List (Int))), y2.2.1, y2.2.2)))) r1 else some (Ctl.out l4))
def m_spec_R8Joins_s1 (p1 : Int) (s4 : (List (Int)) × Int) : Option (Ctl ((List (Int)) × Int) ((List (Int)))) :=
  match s4 with | (l6, x7) => (bif decide (x7 < p1) then Option.bind (apC l6 (([x7] : List (Int)))) fun _ => some (Ctl.next ((l6 ++ (([x7] : List (Int))), wr (x7 + 1)))) else some (Ctl.out l6))
noncomputable def m_spec_R8Joins (l0 : List (Int)) (p1 : Int) : Option ((List (List (Int)))) :=
  Option.bind (m_spec_l00From l0) fun y3 => Option.bind (loopM (m_spec_R8Joins_s1 p1) ((([] : List (Int)), 0))) fun (r2 : (List (Int))) => (fun (l7 : List (Int)) => Option.bind (loopM (m_spec_R8Joins_s4 l0 p1) ((([] : List (List (Int))), l7, y3.1, y3.2))) fun (r3 : (List (List (Int)))) => (fun (l8 : List (List (Int))) => some l8) r3) r2

def m_impl_IsJoins_s1 (p0 : Int) (l1 : List (List (Int))) (s1 : Int × (List (Int × Bool))) : Option (Ctl (Int × (List (Int × Bool))) (Sum (Unit) ((Bool)))) :=
  match s1 with | (x1, l2) => (bif decide (x1 < (((l1).length : Int))) then Option.bind (geti l1 x1) fun x2 => (bif (((x2).length : Int)) != 2 then some (Ctl.out (Sum.inr false)) else Option.bind (geti x2 0) fun x3 => (bif decide (x3 < 0) then some (Ctl.out (Sum.inr false)) else Option.bind (geti x2 0) fun x4 => Option.bind (geti x2 1) fun x5 => (bif decide (x4 ≥ x5) then some (Ctl.out (Sum.inr false)) else Option.bind (geti x2 1) fun x6 => (bif decide (x6 ≥ (wr (p0 + x1))) then some (Ctl.out (Sum.inr false)) else Option.bind (geti x2 0) fun x7 => Option.bind (mgC (okI x7) false l2 x7) fun y1 => (bif y1 then some (Ctl.out (Sum.inr false)) else Option.bind (geti x2 1) fun x8 => Option.bind (mgC (okI x8) false l2 x8) fun y2 => (bif y2 then some (Ctl.out (Sum.inr false)) else Option.bind (geti x2 0) fun x9 => Option.bind (geti x2 1) fun x10 => Option.bind (mpC (okI x9)) fun _ => Option.bind (mpC (okI x10)) fun _ => some (Ctl.next ((wr (x1 + 1), mset (ment false (mset (ment false l2 x9) x9 true) x10) x10 true))))))))) else some (Ctl.out (Sum.inl (()))))
noncomputable def m_impl_IsJoins (p0 : Int) (l1 : List (List (Int))) : Option ((Bool)) :=
  Option.bind (m_impl_in p0 2 12) fun y3 => (bif !y3 then some false else (bif (((l1).length : Int)) != (wr (p0 - 1)) then some false else Option.bind (loopM (m_impl_IsJoins_s1 p0 l1) ((0, ([] : List (Int × Bool))))) fun (r1 : Sum (Unit) ((Bool))) => match r1 with | Sum.inl q1 => (some true) | Sum.inr v1 => some v1))

noncomputable def m_impl_tree_s2 (l1 : List (List (Int))) (s1 : (List (Int × Int × Int × Int × Int)) × Int × (List (Int))) : Option (Ctl ((List (Int × Int × Int × Int × Int)) × Int × (List (Int))) (Sum ((List (Int × Int × Int × Int × Int)) × (List (Int))) ((List (Int × Int × Int × Int × Int)) × (List (Int)) × (Bool)))) :=
  match s1 with | (l2, x1, l3) => (bif decide (x1 < (((l1).length : Int))) then Option.bind (geti l1 x1) fun x2 => Option.bind (Option.bind (geti x2 0) fun x3 => Option.bind (geti l2 x3) fun x4 => Option.bind (geti x2 1) fun x5 => Option.bind (geti l2 x5) fun x6 => Option.bind (m_impl_merge x4.1 x4.2.1 x4.2.2.1 x4.2.2.2.1 x4.2.2.2.2 x6.1 x6.2.1 x6.2.2.1 x6.2.2.2.1 x6.2.2.2.2) fun y1 => some ((y1.1.1, y1.1.2.1, y1.1.2.2.1, y1.1.2.2.2.1, y1.1.2.2.2.2, y1.2.1, y1.2.2.1, y1.2.2.2))) fun (s2 : Int × Int × Int × Int × Int × Int × Int × Bool) => match s2 with | (x7, x8, x9, x10, x11, x12, x13, x14) => (bif !x14 then some (Ctl.out (Sum.inr (([], [], false)))) else Option.bind (apC l2 (([(x7, x8, x9, x10, x11)] : List (Int × Int × Int × Int × Int)))) fun _ => Option.bind (geti x2 0) fun x15 => Option.bind (geti x2 1) fun x16 => Option.bind (geti l3 x15) fun x17 => Option.bind (geti (l3.set (Int.toNat x15) x12) x16) fun x18 => some (Ctl.next ((l2 ++ (([(x7, x8, x9, x10, x11)] : List (Int × Int × Int × Int × Int))), wr (x1 + 1), (l3.set (Int.toNat x15) x12).set (Int.toNat x16) x13)))) else some (Ctl.out (Sum.inl ((l2, l3)))))
noncomputable def m_impl_tree_s1 (l0 : List (Int × Int)) (s3 : (List (Int × Int × Int × Int × Int)) × Int) : Option (Ctl ((List (Int × Int × Int × Int × Int)) × Int) ((List (Int × Int × Int × Int × Int)))) :=
  match s3 with | (l4, x19) => (bif decide (x19 < (((l0).length : Int))) then Option.bind (geti l0 x19) fun x20 => Option.bind (m_impl_leaf x20.1 x20.2) fun y2 => Option.bind (apC l4 (([(y2.1, y2.2.1, y2.2.2.1, y2.2.2.2, 0)] : List (Int × Int × Int × Int × Int)))) fun _ => some (Ctl.next ((l4 ++ (([(y2.1, y2.2.1, y2.2.2.1, y2.2.2.2, 0)] : List (Int × Int × Int × Int × Int))), wr (x19 + 1)))) else some (Ctl.out l4))
noncomputable def m_impl_tree (l0 : List (Int × Int)) (l1 : List (List (Int))) : Option ((List (Int × Int × Int × Int × Int)) × (List (Int)) × (Bool)) :=
  Option.bind (m_impl_clockPins l0) fun y3 => (bif !y3 then some (([], [], false)) else Option.bind (m_impl_IsJoins (((l0).length : Int)) l1) fun y4 => (bif !y4 then some (([], [], false)) else Option.bind (Option.bind (mkC (wr ((wr (2 * (((l0).length : Int)))) - 1))) fun _ => some ((([] : List (Int × Int × Int × Int × Int)), List.replicate (Int.toNat (wr ((wr (2 * (((l0).length : Int)))) - 1))) ((0 : Int))))) fun (s4 : (List (Int × Int × Int × Int × Int)) × (List (Int))) => match s4 with | (l5, l6) => Option.bind (loopM (m_impl_tree_s1 l0) ((l5, 0))) fun (r1 : (List (Int × Int × Int × Int × Int))) => (fun (l7 : List (Int × Int × Int × Int × Int)) => Option.bind (loopM (m_impl_tree_s2 l1) ((l7, 0, l6))) fun (r2 : Sum ((List (Int × Int × Int × Int × Int)) × (List (Int))) ((List (Int × Int × Int × Int × Int)) × (List (Int)) × (Bool))) => match r2 with | Sum.inl q1 => (match q1 with | (l8, l9) => some ((l8, l9, true))) | Sum.inr v1 => some v1) r1))

noncomputable def m_impl_ClockWires (l0 : List (Int × Int)) (l1 : List (List (Int))) : Option ((List (Int)) × (Bool)) :=
  Option.bind (m_impl_tree l0 l1) fun y1 => some ((y1.2.1, y1.2.2))

def m_laws_r8Sum_s1 (l0 : List (Int)) (s1 : Int × Int) : Option (Ctl (Int × Int) (Int)) :=
  match s1 with | (x1, x2) => (bif decide (x2 < (((l0).length : Int))) then Option.bind (geti l0 x2) fun x3 => some (Ctl.next ((wr (x1 + x3), wr (x2 + 1)))) else some (Ctl.out x1))
noncomputable def m_laws_r8Sum (l0 : List (Int)) : Option ((Int)) :=
  Option.bind (loopM (m_laws_r8Sum_s1 l0) ((0, 0))) fun (r1 : Int) => (fun (x4 : Int) => some x4) r1

noncomputable def m_laws_FnBestClocks (l0 : List (Int)) (l1 : List (Int)) : Option ((Bool)) :=
  Option.bind (m_laws_r8Long l0 l1) fun y1 => (bif y1 then some true else Option.bind (m_spec_R8Pins l0 5) fun y2 => Option.bind (m_impl_BestJoins y2) fun y3 => Option.bind (m_impl_NearestJoins y2) fun y4 => Option.bind (m_spec_R8Joins l1 (((y2).length : Int))) fun y5 => Option.bind (m_impl_ClockWires y2 y3.1) fun y6 => Option.bind (m_impl_ClockWires y2 y4.1) fun y7 => Option.bind (m_impl_ClockWires y2 y5) fun y8 => (bif y3.2.2 then (bif y4.2 then (bif y6.2 then (bif y7.2 then (bif y8.2 then Option.bind (m_laws_r8Sum y6.1) fun y9 => (bif y9 == y3.2.1 then Option.bind (m_laws_r8Sum y7.1) fun y10 => (bif decide (y10 ≥ y3.2.1) then Option.bind (m_laws_r8Sum y8.1) fun y11 => (bif decide (y11 ≥ y3.2.1) then (bif decide (y3.2.1 ≥ 0) then Option.bind (m_impl_IsJoins (((y2).length : Int)) y4.1) fun y12 => some y12 else some false) else some false) else some false) else some false) else some false) else some false) else some false) else some false) else some false))

def m_laws_szPointS (l0 : List (Int × Int)) (p1 : Int) : Option ((Int)) :=
  (bif decide ((wr (p1 - (((l0).length : Int)))) < 0) then some ((-1)) else some (wr (p1 - (((l0).length : Int)))))

def m_spec_l00In (p0 : Int) (p1 : Int) (p2 : Int) : Option ((Bool)) :=
  (bif decide (p0 ≥ p1) then some (decide (p0 ≤ p2)) else some false)

def m_spec_l01Point (p0_0 : Int) (p0_1 : Int) : Option ((Bool)) :=
  Option.bind (m_spec_l00In p0_0 0 99) fun y1 => (bif y1 then Option.bind (m_spec_l00In p0_1 0 99) fun y2 => some y2 else some false)

noncomputable def m_spec_l01Points_s1 (l0 : List (Int × Int)) (s1 : Int) : Option (Ctl (Int) (Sum (Unit) ((Bool)))) :=
  (fun (x1 : Int) => (bif decide (x1 < (((l0).length : Int))) then Option.bind (geti l0 x1) fun x2 => Option.bind (m_spec_l01Point x2.1 x2.2) fun y1 => (bif !y1 then some (Ctl.out (Sum.inr false)) else some (Ctl.next (wr (x1 + 1)))) else some (Ctl.out (Sum.inl (()))))) s1
noncomputable def m_spec_l01Points (l0 : List (Int × Int)) : Option ((Bool)) :=
  Option.bind (loopM (m_spec_l01Points_s1 l0) 0) fun (r1 : Sum (Unit) ((Bool))) => match r1 with | Sum.inl q1 => (some (decide ((((l0).length : Int)) ≤ 24))) | Sum.inr v1 => some v1

noncomputable def m_spec_l06Pins (l0 : List (Int × Int)) : Option ((Bool)) :=
  Option.bind (m_spec_l00In (((l0).length : Int)) 2 12) fun y1 => (bif y1 then Option.bind (m_spec_l01Points l0) fun y2 => some y2 else some false)

def m_spec_l06Leaf (p0_0 : Int) (p0_1 : Int) : Option ((Int × Int × Int × Int)) :=
  some ((wr ((wr (p0_0 + p0_1)) * 4096), wr ((wr (p0_0 + p0_1)) * 4096), wr ((wr (p0_0 - p0_1)) * 4096), wr ((wr (p0_0 - p0_1)) * 4096)))

def m_spec_l00Max (p0 : Int) (p1 : Int) : Option ((Int)) :=
  (bif decide (p0 > p1) then some p0 else some p1)

def m_spec_l06Far (p0_0 : Int) (p0_1 : Int) (p0_2 : Int) (p0_3 : Int) (p1_0 : Int) (p1_1 : Int) (p1_2 : Int) (p1_3 : Int) : Option ((Int)) :=
  Option.bind (m_spec_l00Max (wr (p0_0 - p1_1)) (wr (p1_0 - p0_1))) fun y1 => Option.bind (m_spec_l00Max 0 y1) fun y2 => Option.bind (m_spec_l00Max (wr (p0_2 - p1_3)) (wr (p1_2 - p0_3))) fun y3 => Option.bind (m_spec_l00Max 0 y3) fun y4 => Option.bind (m_spec_l00Max y2 y4) fun y5 => some y5

def m_spec_l00Min (p0 : Int) (p1 : Int) : Option ((Int)) :=
  (bif decide (p0 < p1) then some p0 else some p1)

def m_spec_l06Meet (p0_0 : Int) (p0_1 : Int) (p0_2 : Int) (p0_3 : Int) (p1_0 : Int) (p1_1 : Int) (p1_2 : Int) (p1_3 : Int) : Option ((Int × Int × Int × Int)) :=
  Option.bind (m_spec_l00Max p0_0 p1_0) fun y1 => Option.bind (m_spec_l00Min p0_1 p1_1) fun y2 => Option.bind (m_spec_l00Max p0_2 p1_2) fun y3 => Option.bind (m_spec_l00Min p0_3 p1_3) fun y4 => some ((y1, y2, y3, y4))

def m_spec_l06Grow (p0_0 : Int) (p0_1 : Int) (p0_2 : Int) (p0_3 : Int) (p1 : Int) : Option ((Int × Int × Int × Int)) :=
  some ((wr (p0_0 - p1), wr (p0_1 + p1), wr (p0_2 - p1), wr (p0_3 + p1)))

def m_spec_l06Pair (p0_0 : Int) (p0_1 : Int) (p0_2 : Int) (p0_3 : Int) (p0_4 : Int) (p1_0 : Int) (p1_1 : Int) (p1_2 : Int) (p1_3 : Int) (p1_4 : Int) : Option ((Int × Int × Int × Int × Int) × (Int) × (Int)) :=
  Option.bind (m_spec_l06Far p0_0 p0_1 p0_2 p0_3 p1_0 p1_1 p1_2 p1_3) fun y1 => Option.bind ((bif decide ((wr (p1_4 - p0_4)) > y1) then some ((wr (p1_4 - p0_4), 0)) else (bif decide ((wr (p1_4 - p0_4)) < (wr (0 - y1))) then some ((0, wr (0 - (wr (p1_4 - p0_4))))) else some ((wr (Int.tdiv (wr (y1 + (wr (p1_4 - p0_4)))) 2), wr (y1 - (wr (Int.tdiv (wr (y1 + (wr (p1_4 - p0_4)))) 2)))))))) fun (s1 : Int × Int) => match s1 with | (x1, x2) => Option.bind (Option.bind (m_spec_l06Grow p0_0 p0_1 p0_2 p0_3 x1) fun y2 => Option.bind (m_spec_l06Grow p1_0 p1_1 p1_2 p1_3 x2) fun y3 => Option.bind (m_spec_l06Meet y2.1 y2.2.1 y2.2.2.1 y2.2.2.2 y3.1 y3.2.1 y3.2.2.1 y3.2.2.2) fun y4 => some ((y4.1, y4.2.1, y4.2.2.1, y4.2.2.2))) fun (s2 : Int × Int × Int × Int) => match s2 with | (x3, x4, x5, x6) => some (((x3, x4, x5, x6, wr (p0_4 + x1)), x1, x2))

noncomputable def m_spec_l06Tree_s2 (l1 : List (List (Int))) (s1 : (List (Int × Int × Int × Int × Int)) × (List (Int)) × Int) : Option (Ctl ((List (Int × Int × Int × Int × Int)) × (List (Int)) × Int) ((List (Int × Int × Int × Int × Int)) × (List (Int)))) :=
  match s1 with | (l2, l3, x1) => (bif decide (x1 < (((l1).length : Int))) then Option.bind (Option.bind (geti l1 x1) fun x2 => Option.bind (geti x2 0) fun x3 => Option.bind (geti l2 x3) fun x4 => Option.bind (geti l1 x1) fun x5 => Option.bind (geti x5 1) fun x6 => Option.bind (geti l2 x6) fun x7 => Option.bind (m_spec_l06Pair x4.1 x4.2.1 x4.2.2.1 x4.2.2.2.1 x4.2.2.2.2 x7.1 x7.2.1 x7.2.2.1 x7.2.2.2.1 x7.2.2.2.2) fun y1 => some ((y1.1.1, y1.1.2.1, y1.1.2.2.1, y1.1.2.2.2.1, y1.1.2.2.2.2, y1.2.1, y1.2.2))) fun (s2 : Int × Int × Int × Int × Int × Int × Int) => match s2 with | (x8, x9, x10, x11, x12, x13, x14) => Option.bind (geti l1 x1) fun x15 => Option.bind (geti x15 0) fun x16 => Option.bind (geti l3 x16) fun x17 => Option.bind (geti l1 x1) fun x18 => Option.bind (geti x18 1) fun x19 => Option.bind (geti (l3.set (Int.toNat x16) x13) x19) fun x20 => Option.bind (apC l2 (([(x8, x9, x10, x11, x12)] : List (Int × Int × Int × Int × Int)))) fun _ => Option.bind (apC ((l3.set (Int.toNat x16) x13).set (Int.toNat x19) x14) (([0] : List (Int)))) fun _ => some (Ctl.next ((l2 ++ (([(x8, x9, x10, x11, x12)] : List (Int × Int × Int × Int × Int))), ((l3.set (Int.toNat x16) x13).set (Int.toNat x19) x14) ++ (([0] : List (Int))), wr (x1 + 1)))) else some (Ctl.out ((l2, l3))))
noncomputable def m_spec_l06Tree_s1 (l0 : List (Int × Int)) (s3 : (List (Int × Int × Int × Int × Int)) × (List (Int)) × Int) : Option (Ctl ((List (Int × Int × Int × Int × Int)) × (List (Int)) × Int) ((List (Int × Int × Int × Int × Int)) × (List (Int)))) :=
  match s3 with | (l4, l5, x21) => (bif decide (x21 < (((l0).length : Int))) then Option.bind (geti l0 x21) fun x22 => Option.bind (m_spec_l06Leaf x22.1 x22.2) fun y2 => Option.bind (apC l4 (([(y2.1, y2.2.1, y2.2.2.1, y2.2.2.2, 0)] : List (Int × Int × Int × Int × Int)))) fun _ => Option.bind (apC l5 (([0] : List (Int)))) fun _ => some (Ctl.next ((l4 ++ (([(y2.1, y2.2.1, y2.2.2.1, y2.2.2.2, 0)] : List (Int × Int × Int × Int × Int))), l5 ++ (([0] : List (Int))), wr (x21 + 1)))) else some (Ctl.out ((l4, l5))))
noncomputable def m_spec_l06Tree (l0 : List (Int × Int)) (l1 : List (List (Int))) : Option ((List (Int × Int × Int × Int × Int)) × (List (Int))) :=
  Option.bind (loopM (m_spec_l06Tree_s1 l0) ((([] : List (Int × Int × Int × Int × Int)), ([] : List (Int)), 0))) fun (r1 : (List (Int × Int × Int × Int × Int)) × (List (Int))) => match r1 with | (l6, l7) => Option.bind (loopM (m_spec_l06Tree_s2 l1) ((l6, l7, 0))) fun (r2 : (List (Int × Int × Int × Int × Int)) × (List (Int))) => match r2 with | (l8, l9) => some ((l8, l9))

def m_spec_l06Sum_s1 (l0 : List (Int)) (s1 : Int × Int) : Option (Ctl (Int × Int) (Int)) :=
  match s1 with | (x1, x2) => (bif decide (x2 < (((l0).length : Int))) then Option.bind (geti l0 x2) fun x3 => some (Ctl.next ((wr (x1 + x3), wr (x2 + 1)))) else some (Ctl.out x1))
noncomputable def m_spec_l06Sum (l0 : List (Int)) : Option ((Int)) :=
  Option.bind (loopM (m_spec_l06Sum_s1 l0) ((0, 0))) fun (r1 : Int) => (fun (x4 : Int) => some x4) r1

noncomputable def m_spec_l06Best_s22 (l2 : List (Int)) (x1 : Int) (x2 : Int) (s1 : (List (Int)) × Int) : Option (Ctl ((List (Int)) × Int) ((List (Int)))) :=
  match s1 with | (l3, x3) => (bif decide (x3 < (((l2).length : Int))) then Option.bind ((bif x3 != x1 then (bif x3 != x2 then Option.bind (geti l2 x3) fun x4 => Option.bind (apC l3 (([x4] : List (Int)))) fun _ => some (l3 ++ (([x4] : List (Int)))) else some l3) else some l3)) fun (s2 : (List (Int))) => (fun (l4 : List (Int)) => some (Ctl.next ((l4, wr (x3 + 1))))) s2 else some (Ctl.out l3))
noncomputable def m_spec_l06Best_s20 (R : (List (Int × Int)) → (List (List (Int))) → (List (Int)) → Option ((List (List (Int))) × (Int))) (l0 : List (Int × Int)) (l1 : List (List (Int))) (l2 : List (Int)) (x1 : Int) (s3 : (List (List (Int))) × Int × Int) : Option (Ctl ((List (List (Int))) × Int × Int) ((List (List (Int))) × Int)) :=
  match s3 with | (l5, x5, x2) => (bif decide (x2 < (((l2).length : Int))) then Option.bind (Option.bind (loopM (m_spec_l06Best_s22 l2 x1 x2) ((([] : List (Int)), 0))) fun (r1 : (List (Int))) => (fun (l6 : List (Int)) => Option.bind (apC l6 (([wr ((((l0).length : Int)) + (((l1).length : Int)))] : List (Int)))) fun _ => Option.bind (Option.bind (geti l2 x1) fun x6 => Option.bind (geti l2 x2) fun x7 => Option.bind (apC (([] : List (List (Int)))) l1) fun _ => Option.bind (apC ((([] : List (List (Int)))) ++ l1) (([([x6, x7] : List (Int))] : List (List (Int))))) fun _ => Option.bind (R l0 (((([] : List (List (Int)))) ++ l1) ++ (([([x6, x7] : List (Int))] : List (List (Int))))) (l6 ++ (([wr ((((l0).length : Int)) + (((l1).length : Int)))] : List (Int))))) fun y1 => some ((y1.1, y1.2))) fun (s4 : (List (List (Int))) × Int) => match s4 with | (l7, x8) => (bif decide (x5 < 0) then some ((l7, x8)) else (bif decide (x8 < x5) then some ((l7, x8)) else some ((l5, x5))))) r1) fun (s5 : (List (List (Int))) × Int) => match s5 with | (l8, x9) => some (Ctl.next ((l8, x9, wr (x2 + 1)))) else some (Ctl.out ((l5, x5))))
noncomputable def m_spec_l06Best_s15 (R : (List (Int × Int)) → (List (List (Int))) → (List (Int)) → Option ((List (List (Int))) × (Int))) (l0 : List (Int × Int)) (l1 : List (List (Int))) (l2 : List (Int)) (s6 : (List (List (Int))) × Int × Int) : Option (Ctl ((List (List (Int))) × Int × Int) ((List (List (Int))) × Int)) :=
  match s6 with | (l9, x10, x1) => (bif decide (x1 < (((l2).length : Int))) then Option.bind (loopM (m_spec_l06Best_s20 R l0 l1 l2 x1) ((l9, x10, wr (x1 + 1)))) fun (r2 : (List (List (Int))) × Int) => match r2 with | (l10, x11) => some (Ctl.next ((l10, x11, wr (x1 + 1)))) else some (Ctl.out ((l9, x10))))
noncomputable def m_spec_l06Best_body (R : (List (Int × Int)) → (List (List (Int))) → (List (Int)) → Option ((List (List (Int))) × (Int))) (l0 : List (Int × Int)) (l1 : List (List (Int))) (l2 : List (Int)) : Option ((List (List (Int))) × (Int)) :=
  (bif (((l2).length : Int)) == 1 then Option.bind (m_spec_l06Tree l0 l1) fun y2 => Option.bind (m_spec_l06Sum y2.2) fun y3 => some ((l1, y3)) else Option.bind (loopM (m_spec_l06Best_s15 R l0 l1 l2) ((([] : List (List (Int))), (-1), 0))) fun (r3 : (List (List (Int))) × Int) => match r3 with | (l11, x12) => some ((l11, x12)))
noncomputable def m_spec_l06Best : Nat → (List (Int × Int)) → (List (List (Int))) → (List (Int)) → Option ((List (List (Int))) × (Int))
  | 0, _, _, _ => none
  | n + 1, l0, l1, l2 => m_spec_l06Best_body (m_spec_l06Best n) l0 l1 l2

noncomputable def m_spec_BestJoins_s1 (l0 : List (Int × Int)) (s1 : (List (Int)) × Int) : Option (Ctl ((List (Int)) × Int) ((List (Int)))) :=
  match s1 with | (l1, x1) => (bif decide (x1 < (((l0).length : Int))) then Option.bind (apC l1 (([x1] : List (Int)))) fun _ => some (Ctl.next ((l1 ++ (([x1] : List (Int))), wr (x1 + 1)))) else some (Ctl.out l1))
noncomputable def m_spec_BestJoins (l0 : List (Int × Int)) : Option ((List (List (Int))) × (Int) × (Bool)) :=
  Option.bind (m_spec_l06Pins l0) fun y1 => (bif !y1 then some (([], 0, false)) else (bif decide ((((l0).length : Int)) > 5) then some (([], 0, false)) else Option.bind (loopM (m_spec_BestJoins_s1 l0) ((([] : List (Int)), 0))) fun (r1 : (List (Int))) => (fun (l2 : List (Int)) => Option.bind (m_spec_l06Best 64 l0 (([] : List (List (Int)))) l2) fun y2 => some ((y2.1, y2.2, true))) r1))

def m_laws_toPoint (p0_0 : Int) (p0_1 : Int) : Option ((Int × Int)) :=
  some ((p0_0, p0_1))

def m_laws_toPointS_s1 (l0 : List (Int × Int)) (s1 : Int × (List (Int × Int))) : Option (Ctl (Int × (List (Int × Int))) ((List (Int × Int)))) :=
  match s1 with | (x1, l1) => (bif decide (x1 < (((l0).length : Int))) then Option.bind (geti l0 x1) fun x2 => Option.bind (m_laws_toPoint x2.1 x2.2) fun y1 => Option.bind (geti l1 x1) fun x3 => some (Ctl.next ((wr (x1 + 1), l1.set (Int.toNat x1) ((y1.1, y1.2))))) else some (Ctl.out l1))
noncomputable def m_laws_toPointS (l0 : List (Int × Int)) : Option ((List (Int × Int))) :=
  Option.bind (mkC (((l0).length : Int))) fun _ => Option.bind (loopM (m_laws_toPointS_s1 l0) ((0, List.replicate (Int.toNat (((l0).length : Int))) (((0, 0) : Int × Int))))) fun (r1 : (List (Int × Int))) => (fun (l2 : List (Int × Int)) => some l2) r1

def m_laws_eqInt64S_s1 (l0 : List (Int)) (l1 : List (Int)) (s1 : Int) : Option (Ctl (Int) (Sum (Unit) ((Bool)))) :=
  (fun (x1 : Int) => (bif decide (x1 < (((l0).length : Int))) then Option.bind (geti l0 x1) fun x2 => Option.bind (geti l1 x1) fun x3 => (bif x2 != x3 then some (Ctl.out (Sum.inr false)) else some (Ctl.next (wr (x1 + 1)))) else some (Ctl.out (Sum.inl (()))))) s1
noncomputable def m_laws_eqInt64S (l0 : List (Int)) (l1 : List (Int)) : Option ((Bool)) :=
  (bif (((l0).length : Int)) != (((l1).length : Int)) then some false else Option.bind (loopM (m_laws_eqInt64S_s1 l0 l1) 0) fun (r1 : Sum (Unit) ((Bool))) => match r1 with | Sum.inl q1 => (some true) | Sum.inr v1 => some v1)

noncomputable def m_laws_eqInt64SS_s1 (l0 : List (List (Int))) (l1 : List (List (Int))) (s1 : Int) : Option (Ctl (Int) (Sum (Unit) ((Bool)))) :=
  (fun (x1 : Int) => (bif decide (x1 < (((l0).length : Int))) then Option.bind (geti l0 x1) fun x2 => Option.bind (geti l1 x1) fun x3 => Option.bind (m_laws_eqInt64S x2 x3) fun y1 => (bif !y1 then some (Ctl.out (Sum.inr false)) else some (Ctl.next (wr (x1 + 1)))) else some (Ctl.out (Sum.inl (()))))) s1
noncomputable def m_laws_eqInt64SS (l0 : List (List (Int))) (l1 : List (List (Int))) : Option ((Bool)) :=
  (bif (((l0).length : Int)) != (((l1).length : Int)) then some false else Option.bind (loopM (m_laws_eqInt64SS_s1 l0 l1) 0) fun (r1 : Sum (Unit) ((Bool))) => match r1 with | Sum.inl q1 => (some true) | Sum.inr v1 => some v1)

def m_laws_eqPoint (p0_0 : Int) (p0_1 : Int) (p1_0 : Int) (p1_1 : Int) : Option ((Bool)) :=
  (bif p0_0 != p1_0 then some false else (bif p0_1 != p1_1 then some false else some true))

def m_laws_eqPointS_s1 (l0 : List (Int × Int)) (l1 : List (Int × Int)) (s1 : Int) : Option (Ctl (Int) (Sum (Unit) ((Bool)))) :=
  (fun (x1 : Int) => (bif decide (x1 < (((l0).length : Int))) then Option.bind (geti l0 x1) fun x2 => Option.bind (geti l1 x1) fun x3 => Option.bind (m_laws_eqPoint x2.1 x2.2 x3.1 x3.2) fun y1 => (bif !y1 then some (Ctl.out (Sum.inr false)) else some (Ctl.next (wr (x1 + 1)))) else some (Ctl.out (Sum.inl (()))))) s1
noncomputable def m_laws_eqPointS (l0 : List (Int × Int)) (l1 : List (Int × Int)) : Option ((Bool)) :=
  (bif (((l0).length : Int)) != (((l1).length : Int)) then some false else Option.bind (loopM (m_laws_eqPointS_s1 l0 l1) 0) fun (r1 : Sum (Unit) ((Bool))) => match r1 with | Sum.inl q1 => (some true) | Sum.inr v1 => some v1)

def m_laws_markPointS_s1  (s1 : Int × Int × (List (Int × Int))) : Option (Ctl (Int × Int × (List (Int × Int))) (Int × (List (Int × Int)))) :=
  match s1 with | (x1, x2, l1) => (bif decide (x2 < (((l1).length : Int))) then Option.bind (geti l1 x2) fun x3 => Option.bind (geti (l1.set (Int.toNat x2) ((x1, x3.2))) x2) fun x4 => some (Ctl.next ((wr ((wr (x1 + 1)) + 1), wr (x2 + 1), (l1.set (Int.toNat x2) ((x1, x3.2))).set (Int.toNat x2) ((x4.1, wr (x1 + 1)))))) else some (Ctl.out ((x1, l1))))
noncomputable def m_laws_markPointS (l0 : List (Int × Int)) (p1 : Int) : Option ((Int) × (List (Int × Int))) :=
  Option.bind (loopM (m_laws_markPointS_s1) ((p1, 0, l0))) fun (r1 : Int × (List (Int × Int))) => match r1 with | (x5, l2) => some ((x5, l2))

def m_laws_markInt64S_s1  (s1 : Int × Int × (List (Int))) : Option (Ctl (Int × Int × (List (Int))) (Int × (List (Int)))) :=
  match s1 with | (x1, x2, l1) => (bif decide (x2 < (((l1).length : Int))) then Option.bind (geti l1 x2) fun x3 => some (Ctl.next ((wr (x1 + 1), wr (x2 + 1), l1.set (Int.toNat x2) x1))) else some (Ctl.out ((x1, l1))))
noncomputable def m_laws_markInt64S (l0 : List (Int)) (p1 : Int) : Option ((Int) × (List (Int))) :=
  Option.bind (loopM (m_laws_markInt64S_s1) ((p1, 0, l0))) fun (r1 : Int × (List (Int))) => match r1 with | (x4, l2) => some ((x4, l2))

noncomputable def m_laws_markInt64SS_s1  (s1 : Int × Int × (List (List (Int)))) : Option (Ctl (Int × Int × (List (List (Int)))) (Int × (List (List (Int))))) :=
  match s1 with | (x1, x2, l1) => (bif decide (x2 < (((l1).length : Int))) then Option.bind (geti l1 x2) fun x3 => Option.bind (m_laws_markInt64S x3 x1) fun y1 => some (Ctl.next ((y1.1, wr (x2 + 1), l1.set (Int.toNat x2) y1.2))) else some (Ctl.out ((x1, l1))))
noncomputable def m_laws_markInt64SS (l0 : List (List (Int))) (p1 : Int) : Option ((Int) × (List (List (Int)))) :=
  Option.bind (loopM (m_laws_markInt64SS_s1) ((p1, 0, l0))) fun (r1 : Int × (List (List (Int)))) => match r1 with | (x4, l2) => some ((x4, l2))

def m_laws_heldInt64S_s1 (l0 : List (Int)) (s1 : Int × Int) : Option (Ctl (Int × Int) (Sum (Int) ((Int)))) :=
  match s1 with | (x1, x2) => (bif decide (x2 < (((l0).length : Int))) then Option.bind (geti l0 x2) fun x3 => (bif x3 != x1 then some (Ctl.out (Sum.inr ((-1)))) else some (Ctl.next ((wr (x1 + 1), wr (x2 + 1))))) else some (Ctl.out (Sum.inl x1)))
noncomputable def m_laws_heldInt64S (l0 : List (Int)) (p1 : Int) : Option ((Int)) :=
  Option.bind (loopM (m_laws_heldInt64S_s1 l0) ((p1, 0))) fun (r1 : Sum (Int) ((Int))) => match r1 with | Sum.inl q1 => ((fun (x4 : Int) => some x4) q1) | Sum.inr v1 => some v1

noncomputable def m_laws_heldInt64SS_s1 (l0 : List (List (Int))) (s1 : Int × Int) : Option (Ctl (Int × Int) (Sum (Int) ((Int)))) :=
  match s1 with | (x1, x2) => (bif decide (x2 < (((l0).length : Int))) then Option.bind (geti l0 x2) fun x3 => Option.bind (m_laws_heldInt64S x3 x1) fun y1 => (bif decide (y1 < 0) then some (Ctl.out (Sum.inr ((-1)))) else some (Ctl.next ((y1, wr (x2 + 1))))) else some (Ctl.out (Sum.inl x1)))
noncomputable def m_laws_heldInt64SS (l0 : List (List (Int))) (p1 : Int) : Option ((Int)) :=
  Option.bind (loopM (m_laws_heldInt64SS_s1 l0) ((p1, 0))) fun (r1 : Sum (Int) ((Int))) => match r1 with | Sum.inl q1 => ((fun (x4 : Int) => some x4) q1) | Sum.inr v1 => some v1

noncomputable def m_laws_FnExactBestJoins (l0 : List (Int × Int)) : Option ((Bool)) :=
  Option.bind (m_laws_szPointS l0 1048576) fun y1 => (bif decide (y1 < 0) then some true else Option.bind (m_laws_toPointS l0) fun y2 => Option.bind (m_spec_BestJoins y2) fun y3 => Option.bind (m_laws_toPointS l0) fun y4 => Option.bind (m_impl_BestJoins y4) fun y5 => Option.bind (m_laws_eqInt64SS y5.1 y3.1) fun y6 => (bif !y6 then some false else (bif y5.2.1 != y3.2.1 then some false else (bif !(y5.2.2 == y3.2.2) then some false else Option.bind (m_laws_toPointS l0) fun y7 => Option.bind (m_laws_eqPointS y4 y7) fun y8 => (bif !y8 then some false else Option.bind (m_laws_markPointS y4 1) fun y9 => (bif decide (y9.1 < 0) then some false else Option.bind (m_laws_eqInt64SS y5.1 y3.1) fun y10 => (bif !y10 then some false else (bif y5.2.1 != y3.2.1 then some false else (bif !(y5.2.2 == y3.2.2) then some false else Option.bind (m_laws_markInt64SS y5.1 1) fun y11 => Option.bind (m_laws_heldInt64SS y11.2 1) fun y12 => (bif decide (y12 < 0) then some false else (bif y12 != y11.1 then some false else Option.bind (m_laws_toPointS l0) fun y13 => Option.bind (m_impl_BestJoins y13) fun y14 => Option.bind (m_laws_eqInt64SS y14.1 y3.1) fun y15 => (bif !y15 then some false else (bif y14.2.1 != y3.2.1 then some false else (bif !(y14.2.2 == y3.2.2) then some false else Option.bind (m_laws_heldInt64SS y11.2 1) fun y16 => (bif decide (y16 < 0) then some false else (bif y16 != y11.1 then some false else some true))))))))))))))))

end Go.Proofs.Ytfjpfomdoohabaa
