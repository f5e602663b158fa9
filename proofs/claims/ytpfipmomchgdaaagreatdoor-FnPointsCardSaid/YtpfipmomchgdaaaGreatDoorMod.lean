/- Printed models: what each function reckons, in plain Lean. -/
import Derived.Test.YtpfipmomchgdaaaGreatDoorStz
set_option linter.unusedSimpArgs false
set_option linter.unusedVariables false
namespace Go.Proofs.YtpfipmomchgdaaaGreatDoor
open Go.RowKit

def m_laws_b10Long (l0 : List (Int)) (l1 : List (Int)) : Option ((Bool)) :=
  (bif decide ((((l0).length : Int)) > 1048576) then some true else some (decide ((((l1).length : Int)) > 1048576)))

def m_spec_l00From (l0 : List (Int)) : Option ((Int × Int)) :=
  some ((0, 0))

def m_spec_l00Src_next_bspecl00Src (l0_0 : List (Int)) (q0_1 : Int) (q0_2 : Int) : Option ((Int) × (Int) × (Int)) :=
  Option.bind ((bif decide (q0_1 < (((l0_0).length : Int))) then Option.bind (geti l0_0 q0_1) fun x1 => some (wr x1) else some 0)) fun (s1 : Int) => (fun (x2 : Int) => (bif decide ((wr (q0_1 + 1)) ≤ (((l0_0).length : Int))) then some ((x2, wr (q0_1 + 1), wu ((wu ((wu (q0_2 * 6364136223846793005)) + (wu x2))) + 1442695040888963407))) else some ((wr (andU (shrU (wu ((wu ((wu (q0_2 * 6364136223846793005)) + (wu x2))) + 1442695040888963407)) 40) 255), wr (q0_1 + 1), wu ((wu ((wu (q0_2 * 6364136223846793005)) + (wu x2))) + 1442695040888963407))))) s1

def m_spec_l00Src_pick_bspecl00Src (l0_0 : List (Int)) (q0_1 : Int) (q0_2 : Int) (p1 : Int) : Option ((Int) × (Int) × (Int)) :=
  (bif decide (p1 ≤ 1) then some ((0, q0_1, q0_2)) else Option.bind (m_spec_l00Src_next_bspecl00Src l0_0 q0_1 q0_2) fun y1 => Option.bind ((bif decide (p1 > 200) then Option.bind (m_spec_l00Src_next_bspecl00Src l0_0 y1.2.1 y1.2.2) fun y2 => some ((wr ((wr (y1.1 * 256)) + y2.1), y2.2.1, y2.2.2)) else some ((y1.1, y1.2.1, y1.2.2)))) fun (s1 : Int × Int × Int) => match s1 with | (x1, x2, x3) => Option.bind (nzC p1) fun u1 => some ((Int.tmod x1 p1, x2, x3)))

def m_spec_l00Src_one_bspecl00Src (l0_0 : List (Int)) (q0_1 : Int) (q0_2 : Int) (p1 : Int) : Option ((Bool) × (Int) × (Int)) :=
  Option.bind (m_spec_l00Src_pick_bspecl00Src l0_0 q0_1 q0_2 p1) fun y1 => some ((y1.1 == 0, y1.2.1, y1.2.2))

def m_spec_l01DrawGood_bspecl00Src (l0_0 : List (Int)) (q0_1 : Int) (q0_2 : Int) : Option ((Int × Int) × (Int) × (Int)) :=
  Option.bind (Option.bind (m_spec_l00Src_one_bspecl00Src l0_0 q0_1 q0_2 8) fun y1 => (bif y1.1 then some ((100, y1.2.1, y1.2.2)) else some ((10, y1.2.1, y1.2.2)))) fun (s1 : Int × Int × Int) => match s1 with | (x1, x2, x3) => Option.bind (m_spec_l00Src_pick_bspecl00Src l0_0 x2 x3 x1) fun y2 => Option.bind (m_spec_l00Src_pick_bspecl00Src l0_0 y2.2.1 y2.2.2 x1) fun y3 => some (((y2.1, y3.1), y3.2.1, y3.2.2))

noncomputable def m_spec_B10Points_s1 (l0 : List (Int)) (s1 : (List (Int × Int)) × Int × Int × Int) : Option (Ctl ((List (Int × Int)) × Int × Int × Int) ((List (Int × Int)))) :=
  match s1 with | (l1, x1, x2, x3) => (bif decide (x1 > 0) then Option.bind (m_spec_l01DrawGood_bspecl00Src l0 x2 x3) fun y1 => Option.bind (apC l1 (([(y1.1.1, y1.1.2)] : List (Int × Int)))) fun _ => some (Ctl.next ((l1 ++ (([(y1.1.1, y1.1.2)] : List (Int × Int))), wr (x1 - 1), y1.2.1, y1.2.2))) else some (Ctl.out l1))
noncomputable def m_spec_B10Points (l0 : List (Int)) : Option ((List (Int × Int))) :=
  Option.bind (m_spec_l00From l0) fun y2 => Option.bind (m_spec_l00Src_pick_bspecl00Src l0 y2.1 y2.2 7) fun y3 => Option.bind (loopM (m_spec_B10Points_s1 l0) ((([] : List (Int × Int)), y3.1, y3.2.1, y3.2.2))) fun (r1 : (List (Int × Int))) => (fun (l2 : List (Int × Int)) => some l2) r1

def m_laws_b10At (l0 : List (Int)) (p1 : Int) (p2 : Int) : Option ((Int)) :=
  (bif decide (p2 ≤ 1) then some 0 else (bif decide (p1 < (((l0).length : Int))) then Option.bind (geti l0 p1) fun x1 => Option.bind (nzC p2) fun u1 => some (Int.tmod (wr x1) p2) else Option.bind (nzC p2) fun u2 => some (Int.tmod (wr ((wr (p1 * 37)) + 11)) p2)))

def m_laws_b10Pin (l0 : List (Int)) (p1 : Int) : Option ((Int × Int)) :=
  Option.bind (m_laws_b10At l0 p1 10) fun y1 => Option.bind (m_laws_b10At l0 (wr (p1 + 1)) 10) fun y2 => some ((y1, y2))

def m_impl_in (p0 : Int) (p1 : Int) (p2 : Int) : Option ((Bool)) :=
  (bif decide (p0 ≥ p1) then some (decide (p0 ≤ p2)) else some false)

def m_impl_IsPoint (p0_0 : Int) (p0_1 : Int) : Option ((Bool)) :=
  Option.bind (m_impl_in p0_0 0 99) fun y1 => (bif y1 then Option.bind (m_impl_in p0_1 0 99) fun y2 => some y2 else some false)

def m_impl_noPoint (p0_0 : Int) (p0_1 : Int) : Option ((Bool)) :=
  Option.bind (m_impl_IsPoint p0_0 p0_1) fun y1 => some (!y1)

def m_slices_IndexFunc_impl_Point_impl_Point_impl_noPoint_s1 (l0 : List (Int × Int)) (s1 : Int) : Option (Ctl (Int) (Sum (Unit) ((Int)))) :=
  (fun (x1 : Int) => (bif decide (x1 < (((l0).length : Int))) then Option.bind (geti l0 x1) fun x2 => Option.bind (m_impl_noPoint x2.1 x2.2) fun y1 => (bif y1 then some (Ctl.out (Sum.inr x1)) else some (Ctl.next (wr (x1 + 1)))) else some (Ctl.out (Sum.inl (()))))) s1
noncomputable def m_slices_IndexFunc_impl_Point_impl_Point_impl_noPoint (l0 : List (Int × Int)) : Option ((Int)) :=
  Option.bind (loopM (m_slices_IndexFunc_impl_Point_impl_Point_impl_noPoint_s1 l0) 0) fun (r1 : Sum (Unit) ((Int))) => match r1 with | Sum.inl q1 => (some ((-1))) | Sum.inr v1 => some v1

noncomputable def m_slices_ContainsFunc_impl_Point_impl_Point_impl_noPoint (l0 : List (Int × Int)) : Option ((Bool)) :=
  Option.bind (m_slices_IndexFunc_impl_Point_impl_Point_impl_noPoint l0) fun y1 => some (decide (y1 ≥ 0))

noncomputable def m_impl_ArePoints (l0 : List (Int × Int)) : Option ((Bool)) :=
  (bif decide ((((l0).length : Int)) ≤ 24) then Option.bind (m_slices_ContainsFunc_impl_Point_impl_Point_impl_noPoint l0) fun y1 => some (!y1) else some false)

def m_slices_Clone_impl_Point_impl_Point (l0 : List (Int × Int)) : Option ((List (Int × Int))) :=
  Option.bind (apC (([] : List (Int × Int))) l0) fun _ => some ((([] : List (Int × Int))) ++ l0)

def m_cmp_isNaN_int64 (p0 : Int) : Option ((Bool)) :=
  some (p0 != p0)

def m_cmp_Compare_int64 (p0 : Int) (p1 : Int) : Option ((Int)) :=
  Option.bind (m_cmp_isNaN_int64 p0) fun y1 => Option.bind (m_cmp_isNaN_int64 p1) fun y2 => (bif y1 then (bif y2 then some 0 else some ((-1))) else (bif y2 then some 1 else (bif decide (p0 < p1) then some ((-1)) else (bif decide (p0 > p1) then some 1 else some 0))))

def m_cmp_Or_int_s1 (l0 : List (Int)) (s1 : Int) : Option (Ctl (Int) (Sum (Unit) ((Int)))) :=
  (fun (x1 : Int) => (bif decide (x1 < (((l0).length : Int))) then Option.bind (geti l0 x1) fun x2 => (bif x2 != 0 then some (Ctl.out (Sum.inr x2)) else some (Ctl.next (wr (x1 + 1)))) else some (Ctl.out (Sum.inl (()))))) s1
noncomputable def m_cmp_Or_int (l0 : List (Int)) : Option ((Int)) :=
  Option.bind (loopM (m_cmp_Or_int_s1 l0) 0) fun (r1 : Sum (Unit) ((Int))) => match r1 with | Sum.inl q1 => (some 0) | Sum.inr v1 => some v1

noncomputable def m_impl_pointOrder (p0_0 : Int) (p0_1 : Int) (p1_0 : Int) (p1_1 : Int) : Option ((Int)) :=
  Option.bind (m_cmp_Compare_int64 p0_0 p1_0) fun y1 => Option.bind (m_cmp_Compare_int64 p0_1 p1_1) fun y2 => Option.bind (m_cmp_Or_int (([y1, y2] : List (Int)))) fun y3 => some y3

def m_slices_Compact_impl_Point_impl_Point_s4 (l0 : List (Int × Int)) (x1 : Int) (s1 : Int × Int × (List (Int × Int))) : Option (Ctl (Int × Int × (List (Int × Int))) (Int × (List (Int × Int)))) :=
  match s1 with | (x2, x3, l1) => (bif decide (x3 < (((slc l1 x1 (((l0).length : Int))).length : Int))) then Option.bind (Option.bind (geti (slc l1 x1 (((l0).length : Int))) x3) fun x4 => Option.bind (geti (slc l1 x1 (((l0).length : Int))) (wr (x3 - 1))) fun x5 => (bif !(x4.1 == x5.1 && x4.2 == x5.2) then Option.bind (geti (slc l1 x1 (((l0).length : Int))) x3) fun x6 => Option.bind (geti l1 x2) fun x7 => some ((wr (x2 + 1), l1.set (Int.toNat x2) ((x6.1, x6.2)))) else some ((x2, l1)))) fun (s2 : Int × (List (Int × Int))) => match s2 with | (x8, l2) => some (Ctl.next ((x8, wr (x3 + 1), l2))) else some (Ctl.out ((x2, l1))))
noncomputable def m_slices_Compact_impl_Point_impl_Point_s3 (l0 : List (Int × Int)) (s3 : Int) : Option (Ctl (Int) (Sum (Unit) ((List (Int × Int))))) :=
  (fun (x1 : Int) => (bif decide (x1 < (((l0).length : Int))) then Option.bind (geti l0 x1) fun x9 => Option.bind (geti l0 (wr (x1 - 1))) fun x10 => (bif x9.1 == x10.1 && x9.2 == x10.2 then Option.bind (slci l0 x1 (((l0).length : Int))) fun _ => Option.bind (loopM (m_slices_Compact_impl_Point_impl_Point_s4 l0 x1) ((x1, 1, l0))) fun (r1 : Int × (List (Int × Int))) => match r1 with | (x11, l3) => Option.bind (slci l3 x11 (((l3).length : Int))) fun _ => Option.bind (slci (clr ((0, 0) : Int × Int) l3 x11) 0 x11) fun _ => some (Ctl.out (Sum.inr ((clr ((0, 0) : Int × Int) l3 x11).take (Int.toNat x11)))) else some (Ctl.next (wr (x1 + 1)))) else some (Ctl.out (Sum.inl (()))))) s3
noncomputable def m_slices_Compact_impl_Point_impl_Point (l0 : List (Int × Int)) : Option ((List (Int × Int))) :=
  (bif decide ((((l0).length : Int)) < 2) then some l0 else Option.bind (loopM (m_slices_Compact_impl_Point_impl_Point_s3 l0) 1) fun (r2 : Sum (Unit) ((List (Int × Int)))) => match r2 with | Sum.inl q1 => (some l0) | Sum.inr v1 => some v1)

noncomputable def m_impl_sorted (l0 : List (Int × Int)) : Option ((List (Int × Int))) :=
  Option.bind (m_slices_Clone_impl_Point_impl_Point l0) fun y1 => Option.bind (m_slices_SortFunc_impl_Point_impl_Point_impl_pointOrder y1) fun y2 => Option.bind (m_slices_Compact_impl_Point_impl_Point y2) fun y3 => some y3

noncomputable def m_impl_SortPoints (l0 : List (Int × Int)) : Option ((List (Int × Int)) × (Bool)) :=
  Option.bind (m_impl_ArePoints l0) fun y1 => (bif !y1 then some (([], false)) else Option.bind (m_impl_sorted l0) fun y2 => some ((y2, true)))

noncomputable def m_impl_Decimal (p0 : Int) : Option ((ByteArray)) :=
  Option.bind (m_strconv_FormatInt p0 10) fun y1 => some y1

noncomputable def m_impl_joined (l0 : List (ByteArray)) : Option ((ByteArray)) :=
  (bif (((l0).length : Int)) == 0 then some (ByteArray.mk #[110, 111, 110, 101]) else Option.bind (m_strings_Join l0 (ByteArray.mk #[44])) fun y1 => some y1)

noncomputable def m_impl_pointsText_s1 (l0 : List (Int × Int)) (s1 : (List (ByteArray)) × Int) : Option (Ctl ((List (ByteArray)) × Int) ((List (ByteArray)))) :=
  match s1 with | (l1, x1) => (bif decide (x1 < (((l0).length : Int))) then Option.bind (geti l0 x1) fun x2 => Option.bind (m_impl_Decimal x2.1) fun y1 => Option.bind (sadC y1 (ByteArray.mk #[46])) fun u1 => Option.bind (m_impl_Decimal x2.2) fun y2 => Option.bind (sadC (y1 ++ (ByteArray.mk #[46])) y2) fun u2 => Option.bind (apC l1 (([(y1 ++ (ByteArray.mk #[46])) ++ y2] : List (ByteArray)))) fun _ => some (Ctl.next ((l1 ++ (([(y1 ++ (ByteArray.mk #[46])) ++ y2] : List (ByteArray))), wr (x1 + 1)))) else some (Ctl.out l1))
noncomputable def m_impl_pointsText (l0 : List (Int × Int)) : Option ((ByteArray)) :=
  Option.bind (loopM (m_impl_pointsText_s1 l0) ((([] : List (ByteArray)), 0))) fun (r1 : (List (ByteArray))) => (fun (l2 : List (ByteArray)) => Option.bind (m_impl_joined l2) fun y3 => some y3) r1

noncomputable def m_impl_PointsText (l0 : List (Int × Int)) : Option ((ByteArray) × (Bool)) :=
  Option.bind (m_impl_ArePoints l0) fun y1 => (bif !y1 then some ((ByteArray.mk #[], false)) else Option.bind (m_impl_pointsText l0) fun y2 => some ((y2, true)))

noncomputable def m_strings_Split (p0 : ByteArray) (p1 : ByteArray) : Option ((List (ByteArray))) :=
  Option.bind (m_strings_genSplit p0 p1 0 ((-1))) fun y1 => some y1

noncomputable def m_impl_parted (p0 : ByteArray) : Option ((List (ByteArray))) :=
  (bif (p0).toList == (ByteArray.mk #[110, 111, 110, 101]).toList then some ([]) else Option.bind (m_strings_Split p0 (ByteArray.mk #[44])) fun y1 => some y1)

noncomputable def m_impl_ReadDecimal (p0 : ByteArray) : Option ((Int) × (Bool)) :=
  Option.bind (m_strconv_ParseInt p0 10 64) fun y1 => Option.bind (m_impl_in y1 ((-1000000000)) 1000000000) fun y2 => (bif !y2 then some ((0, false)) else Option.bind (m_impl_Decimal y1) fun y3 => (bif !((y3).toList == (p0).toList) then some ((0, false)) else some ((y1, true))))

noncomputable def m_internal_stringslite_Cut (p0 : ByteArray) (p1 : ByteArray) : Option ((ByteArray) × (ByteArray) × (Bool)) :=
  Option.bind (m_internal_stringslite_Index p0 p1) fun y1 => (bif decide (y1 ≥ 0) then Option.bind (sslC ((p0).size : Int) 0 y1) fun u1 => Option.bind (sslC ((p0).size : Int) (wr (y1 + (((p1).size : Int)))) (((p0).size : Int))) fun u2 => some ((ssl p0 0 y1, ssl p0 (wr (y1 + (((p1).size : Int)))) (((p0).size : Int)), true)) else some ((p0, ByteArray.mk #[], false)))

noncomputable def m_strings_Cut (p0 : ByteArray) (p1 : ByteArray) : Option ((ByteArray) × (ByteArray) × (Bool)) :=
  Option.bind (m_internal_stringslite_Cut p0 p1) fun y1 => some ((y1.1, y1.2.1, y1.2.2))

noncomputable def m_impl_ReadPoints_s1 (y1 : (List (ByteArray))) (s1 : (List (Int × Int)) × Int) : Option (Ctl ((List (Int × Int)) × Int) (Sum ((List (Int × Int))) ((List (Int × Int)) × (Bool)))) :=
  match s1 with | (l1, x1) => (bif decide (x1 < (((y1).length : Int))) then Option.bind (geti y1 x1) fun x2 => Option.bind (m_strings_Cut x2 (ByteArray.mk #[46])) fun y2 => Option.bind (m_impl_ReadDecimal y2.1) fun y3 => Option.bind (m_impl_ReadDecimal y2.2.1) fun y4 => (bif !y2.2.2 then some (Ctl.out (Sum.inr (([], false)))) else (bif !y3.2 then some (Ctl.out (Sum.inr (([], false)))) else (bif !y4.2 then some (Ctl.out (Sum.inr (([], false)))) else (bif (((l1).length : Int)) == 24 then some (Ctl.out (Sum.inr (([], false)))) else Option.bind (apC l1 (([(y3.1, y4.1)] : List (Int × Int)))) fun _ => some (Ctl.next ((l1 ++ (([(y3.1, y4.1)] : List (Int × Int))), wr (x1 + 1)))))))) else some (Ctl.out (Sum.inl l1)))
noncomputable def m_impl_ReadPoints (p0 : ByteArray) : Option ((List (Int × Int)) × (Bool)) :=
  Option.bind (m_impl_parted p0) fun y1 => Option.bind (loopM (m_impl_ReadPoints_s1 y1) ((([] : List (Int × Int)), 0))) fun (r1 : Sum ((List (Int × Int))) ((List (Int × Int)) × (Bool))) => match r1 with | Sum.inl q1 => ((fun (l2 : List (Int × Int)) => Option.bind (m_impl_ArePoints l2) fun y5 => (bif !y5 then some (([], false)) else some ((l2, true)))) q1) | Sum.inr v1 => some v1

def m_laws_b10Same_s1 (l0 : List (Int × Int)) (l1 : List (Int × Int)) (s1 : Int) : Option (Ctl (Int) (Sum (Unit) ((Bool)))) :=
  (fun (x1 : Int) => (bif decide (x1 < (((l0).length : Int))) then Option.bind (geti l0 x1) fun x2 => Option.bind (geti l1 x1) fun x3 => (bif !(x2.1 == x3.1 && x2.2 == x3.2) then some (Ctl.out (Sum.inr false)) else some (Ctl.next (wr (x1 + 1)))) else some (Ctl.out (Sum.inl (()))))) s1
noncomputable def m_laws_b10Same (l0 : List (Int × Int)) (l1 : List (Int × Int)) : Option ((Bool)) :=
  (bif (((l0).length : Int)) != (((l1).length : Int)) then some false else Option.bind (loopM (m_laws_b10Same_s1 l0 l1) 0) fun (r1 : Sum (Unit) ((Bool))) => match r1 with | Sum.inl q1 => (some true) | Sum.inr v1 => some v1)

def m_laws_b10In_s1 (l0 : List (Int × Int)) (p1_0 : Int) (p1_1 : Int) (s1 : Int) : Option (Ctl (Int) (Sum (Unit) ((Bool)))) :=
  (fun (x1 : Int) => (bif decide (x1 < (((l0).length : Int))) then Option.bind (geti l0 x1) fun x2 => (bif x2.1 == p1_0 && x2.2 == p1_1 then some (Ctl.out (Sum.inr true)) else some (Ctl.next (wr (x1 + 1)))) else some (Ctl.out (Sum.inl (()))))) s1
noncomputable def m_laws_b10In (l0 : List (Int × Int)) (p1_0 : Int) (p1_1 : Int) : Option ((Bool)) :=
  Option.bind (loopM (m_laws_b10In_s1 l0 p1_0 p1_1) 0) fun (r1 : Sum (Unit) ((Bool))) => match r1 with | Sum.inl q1 => (some false) | Sum.inr v1 => some v1

def m_impl_box_s1 (l0 : List (Int × Int)) (s1 : Int × Int × Int × Int × Int) : Option (Ctl (Int × Int × Int × Int × Int) (Int × Int × Int × Int)) :=
  match s1 with | (x1, x2, x3, x4, x5) => (bif decide (x1 < (((l0).length : Int))) then Option.bind (geti l0 x1) fun x6 => some (Ctl.next ((wr (x1 + 1), if x6.1 < x2 then x6.1 else x2, if x6.2 < x3 then x6.2 else x3, if x6.1 > x4 then x6.1 else x4, if x6.2 > x5 then x6.2 else x5))) else some (Ctl.out ((x2, x3, x4, x5))))
noncomputable def m_impl_box (l0 : List (Int × Int)) : Option ((Int × Int) × (Int × Int)) :=
  Option.bind (Option.bind (geti l0 0) fun x7 => Option.bind (geti l0 0) fun x8 => some ((x7.1, x7.2, x8.1, x8.2))) fun (s2 : Int × Int × Int × Int) => match s2 with | (x9, x10, x11, x12) => Option.bind (loopM (m_impl_box_s1 l0) ((0, x9, x10, x11, x12))) fun (r1 : Int × Int × Int × Int) => match r1 with | (x13, x14, x15, x16) => some (((x13, x14), (x15, x16)))

noncomputable def m_impl_BoxOf (l0 : List (Int × Int)) : Option ((Int × Int) × (Int × Int) × (Bool)) :=
  Option.bind (m_impl_ArePoints l0) fun y1 => (bif !y1 then some (((0, 0), (0, 0), false)) else (bif (((l0).length : Int)) == 0 then some (((0, 0), (0, 0), false)) else Option.bind (m_impl_box l0) fun y2 => some (((y2.1.1, y2.1.2), (y2.2.1, y2.2.2), true))))

def m_impl_size (p0 : Int) : Option ((Int)) :=
  some (if (wr (0 - p0)) > p0 then (wr (0 - p0)) else p0)

def m_impl_far (p0_0 : Int) (p0_1 : Int) (p1_0 : Int) (p1_1 : Int) : Option ((Int)) :=
  Option.bind (m_impl_size (wr (p0_0 - p1_0))) fun y1 => Option.bind (m_impl_size (wr (p0_1 - p1_1))) fun y2 => some (wr (y1 + y2))

noncomputable def m_impl_NearestPoint_s1 (l0 : List (Int × Int)) (p1_0 : Int) (p1_1 : Int) (s1 : Int × Int) : Option (Ctl (Int × Int) (Int)) :=
  match s1 with | (x1, x2) => (bif decide (x1 < (((l0).length : Int))) then Option.bind (Option.bind (geti l0 x1) fun x3 => Option.bind (geti l0 x2) fun x4 => Option.bind (m_impl_far p1_0 p1_1 x3.1 x3.2) fun y1 => Option.bind (m_impl_far p1_0 p1_1 x4.1 x4.2) fun y2 => (bif decide (y1 < y2) then some x1 else some x2)) fun (s2 : Int) => (fun (x5 : Int) => some (Ctl.next ((wr (x1 + 1), x5)))) s2 else some (Ctl.out x2))
noncomputable def m_impl_NearestPoint (l0 : List (Int × Int)) (p1_0 : Int) (p1_1 : Int) : Option ((Int) × (Bool)) :=
  Option.bind (m_impl_ArePoints l0) fun y3 => (bif !y3 then some ((0, false)) else (bif (((l0).length : Int)) == 0 then some ((0, false)) else Option.bind (m_impl_IsPoint p1_0 p1_1) fun y4 => (bif !y4 then some ((0, false)) else Option.bind (loopM (m_impl_NearestPoint_s1 l0 p1_0 p1_1) ((0, 0))) fun (r1 : Int) => (fun (x6 : Int) => some ((x6, true))) r1)))

def m_impl_DistanceOf (p0_0 : Int) (p0_1 : Int) (p1_0 : Int) (p1_1 : Int) : Option ((Int) × (Bool)) :=
  Option.bind (m_impl_IsPoint p0_0 p0_1) fun y1 => (bif !y1 then some ((0, false)) else Option.bind (m_impl_IsPoint p1_0 p1_1) fun y2 => (bif !y2 then some ((0, false)) else Option.bind (m_impl_far p0_0 p0_1 p1_0 p1_1) fun y3 => some ((y3, true))))

def m_laws_b10Abs (p0 : Int) : Option ((Int)) :=
  (bif decide (p0 < 0) then some (wr (0 - p0)) else some p0)

def m_laws_b10Far (p0_0 : Int) (p0_1 : Int) (p1_0 : Int) (p1_1 : Int) : Option ((Int)) :=
  Option.bind (m_laws_b10Abs (wr (p0_0 - p1_0))) fun y1 => Option.bind (m_laws_b10Abs (wr (p0_1 - p1_1))) fun y2 => some (wr (y1 + y2))

noncomputable def m_laws_FnPoints_s2 (y1 : (List (Int × Int))) (y2 : (Int × Int)) (y3 : (List (Int × Int)) × (Bool)) (y4 : (Int) × (Bool)) (s1 : Int × Int × Int × Int × Int) : Option (Ctl (Int × Int × Int × Int × Int) (Sum (Int × Int × Int × Int) ((Bool)))) :=
  match s1 with | (x1, x2, x3, x4, x5) => (bif decide (x1 < (((y1).length : Int))) then Option.bind (geti y1 x1) fun x6 => Option.bind (m_impl_DistanceOf y2.1 y2.2 x6.1 x6.2) fun y5 => Option.bind (m_impl_DistanceOf x6.1 x6.2 y2.1 y2.2) fun y6 => Option.bind (geti y1 y4.1) fun x7 => Option.bind (m_impl_DistanceOf x6.1 x6.2 x7.1 x7.2) fun y7 => Option.bind (geti y1 y4.1) fun x8 => Option.bind (m_impl_DistanceOf y2.1 y2.2 x8.1 x8.2) fun y8 => (bif !y5.2 then some (Ctl.out (Sum.inr false)) else (bif !y6.2 then some (Ctl.out (Sum.inr false)) else (bif !y7.2 then some (Ctl.out (Sum.inr false)) else (bif !y8.2 then some (Ctl.out (Sum.inr false)) else (bif y5.1 != y6.1 then some (Ctl.out (Sum.inr false)) else Option.bind (m_laws_b10Far y2.1 y2.2 x6.1 x6.2) fun y9 => (bif y5.1 != y9 then some (Ctl.out (Sum.inr false)) else (bif decide (y8.1 > y5.1) then some (Ctl.out (Sum.inr false)) else (bif decide (y5.1 > (wr (y7.1 + y8.1))) then some (Ctl.out (Sum.inr false)) else Option.bind (m_laws_b10In y3.1 x6.1 x6.2) fun y10 => (bif !y10 then some (Ctl.out (Sum.inr false)) else some (Ctl.next ((wr (x1 + 1), if x6.1 < x2 then x6.1 else x2, if x6.2 < x3 then x6.2 else x3, if x6.1 > x4 then x6.1 else x4, if x6.2 > x5 then x6.2 else x5)))))))))))) else some (Ctl.out (Sum.inl ((x2, x3, x4, x5)))))
noncomputable def m_laws_FnPoints_s1 (y1 : (List (Int × Int))) (y3 : (List (Int × Int)) × (Bool)) (s2 : Int) : Option (Ctl (Int) (Sum (Unit) ((Bool)))) :=
  (fun (x9 : Int) => (bif decide (x9 < (((y3.1).length : Int))) then Option.bind (geti y3.1 x9) fun x10 => Option.bind (m_laws_b10In y1 x10.1 x10.2) fun y11 => (bif !y11 then some (Ctl.out (Sum.inr false)) else (bif decide (x9 > 0) then Option.bind (geti y3.1 (wr (x9 - 1))) fun x11 => Option.bind (geti y3.1 x9) fun x12 => (bif decide (x11.1 > x12.1) then some (Ctl.out (Sum.inr false)) else Option.bind (geti y3.1 (wr (x9 - 1))) fun x13 => Option.bind (geti y3.1 x9) fun x14 => (bif x13.1 == x14.1 then Option.bind (geti y3.1 (wr (x9 - 1))) fun x15 => Option.bind (geti y3.1 x9) fun x16 => (bif decide (x15.2 ≥ x16.2) then some (Ctl.out (Sum.inr false)) else some (Ctl.next (wr (x9 + 1)))) else some (Ctl.next (wr (x9 + 1))))) else some (Ctl.next (wr (x9 + 1))))) else some (Ctl.out (Sum.inl (()))))) s2
noncomputable def m_laws_FnPoints (l0 : List (Int)) (l1 : List (Int)) : Option ((Bool)) :=
  Option.bind (m_laws_b10Long l0 l1) fun y12 => (bif y12 then some true else Option.bind (m_spec_B10Points l0) fun y1 => Option.bind (m_laws_b10Pin l1 0) fun y2 => Option.bind (m_impl_SortPoints y1) fun y3 => Option.bind (m_impl_PointsText y1) fun y13 => Option.bind (m_impl_ReadPoints y13.1) fun y14 => (bif !y3.2 then some false else (bif !y13.2 then some false else (bif !y14.2 then some false else Option.bind (m_impl_ArePoints y1) fun y15 => (bif !y15 then some false else Option.bind (m_laws_b10Same y14.1 y1) fun y16 => (bif !y16 then some false else Option.bind (loopM (m_laws_FnPoints_s1 y1 y3) 0) fun (r1 : Sum (Unit) ((Bool))) => match r1 with | Sum.inl q1 => (Option.bind (m_impl_BoxOf y1) fun y17 => Option.bind (m_impl_NearestPoint y1 y2.1 y2.2) fun y4 => (bif !(y17.2.2 == (decide ((((y1).length : Int)) > 0))) then some false else (bif !(y4.2 == (decide ((((y1).length : Int)) > 0))) then some false else (bif !y17.2.2 then some ((((y3.1).length : Int)) == 0) else (bif decide (y4.1 < 0) then some false else (bif decide (y4.1 ≥ (((y1).length : Int))) then some false else Option.bind (loopM (m_laws_FnPoints_s2 y1 y2 y3 y4) ((0, 99, 99, 0, 0))) fun (r2 : Sum (Int × Int × Int × Int) ((Bool))) => match r2 with | Sum.inl q2 => (match q2 with | (x17, x18, x19, x20) => (bif y17.1.1 == x17 && y17.1.2 == x18 then some (y17.2.1.1 == x19 && y17.2.1.2 == x20) else some false)) | Sum.inr v1 => some v1)))))) | Sum.inr v2 => some v2))))))

end Go.Proofs.YtpfipmomchgdaaaGreatDoor
