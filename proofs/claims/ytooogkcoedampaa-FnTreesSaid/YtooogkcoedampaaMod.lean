/- Printed models: what each function reckons, in plain Lean. -/
import Derived.Test.YtooogkcoedampaaGat
set_option linter.unusedSimpArgs false
set_option linter.unusedVariables false
namespace Go.Proofs.Ytooogkcoedampaa
open Go.RowKit

def m_laws_b10Long (l0 : List (Int)) (l1 : List (Int)) : Option ((Bool)) :=
  (bif decide ((((l0).length : Int)) > 1048576) then some true else some (decide ((((l1).length : Int)) > 1048576)))

def m_spec_l00From (l0 : List (Int)) : Option ((Int × Int)) :=
  some ((0, 0))

def m_spec_l01Index_s1 (l0 : List (Int × Int)) (p1_0 : Int) (p1_1 : Int) (s1 : Int) : Option (Ctl (Int) (Sum (Unit) ((Int)))) :=
  (fun (x1 : Int) => (bif decide (x1 < (((l0).length : Int))) then Option.bind (geti l0 x1) fun x2 => (bif x2.1 == p1_0 && x2.2 == p1_1 then some (Ctl.out (Sum.inr x1)) else some (Ctl.next (wr (x1 + 1)))) else some (Ctl.out (Sum.inl (()))))) s1
noncomputable def m_spec_l01Index (l0 : List (Int × Int)) (p1_0 : Int) (p1_1 : Int) : Option ((Int)) :=
  Option.bind (loopM (m_spec_l01Index_s1 l0 p1_0 p1_1) 0) fun (r1 : Sum (Unit) ((Int))) => match r1 with | Sum.inl q1 => (some ((-1))) | Sum.inr v1 => some v1

def m_spec_l00Src_next_bspecl00Src (l0_0 : List (Int)) (q0_1 : Int) (q0_2 : Int) : Option ((Int) × (Int) × (Int)) :=
  Option.bind ((bif decide (q0_1 < (((l0_0).length : Int))) then Option.bind (geti l0_0 q0_1) fun x1 => some (wr x1) else some 0)) fun (s1 : Int) => (fun (x2 : Int) => (bif decide ((wr (q0_1 + 1)) ≤ (((l0_0).length : Int))) then some ((x2, wr (q0_1 + 1), wu ((wu ((wu (q0_2 * 6364136223846793005)) + (wu x2))) + 1442695040888963407))) else some ((wr (andU (shrU (wu ((wu ((wu (q0_2 * 6364136223846793005)) + (wu x2))) + 1442695040888963407)) 40) 255), wr (q0_1 + 1), wu ((wu ((wu (q0_2 * 6364136223846793005)) + (wu x2))) + 1442695040888963407))))) s1

def m_spec_l00Src_pick_bspecl00Src (l0_0 : List (Int)) (q0_1 : Int) (q0_2 : Int) (p1 : Int) : Option ((Int) × (Int) × (Int)) :=
  (bif decide (p1 ≤ 1) then some ((0, q0_1, q0_2)) else Option.bind (m_spec_l00Src_next_bspecl00Src l0_0 q0_1 q0_2) fun y1 => Option.bind ((bif decide (p1 > 200) then Option.bind (m_spec_l00Src_next_bspecl00Src l0_0 y1.2.1 y1.2.2) fun y2 => some ((wr ((wr (y1.1 * 256)) + y2.1), y2.2.1, y2.2.2)) else some ((y1.1, y1.2.1, y1.2.2)))) fun (s1 : Int × Int × Int) => match s1 with | (x1, x2, x3) => Option.bind (nzC p1) fun u1 => some ((Int.tmod x1 p1, x2, x3)))

noncomputable def m_spec_l05DrawOk_bspecl00Src_s1 (l0_0 : List (Int)) (s1 : (List (Int × Int)) × Int × Int × Int) : Option (Ctl ((List (Int × Int)) × Int × Int × Int) ((List (Int × Int)) × Int × Int)) :=
  match s1 with | (l1, x1, x2, x3) => (bif decide (x1 > 0) then Option.bind (Option.bind (m_spec_l00Src_pick_bspecl00Src l0_0 x2 x3 9) fun y1 => Option.bind (m_spec_l00Src_pick_bspecl00Src l0_0 y1.2.1 y1.2.2 9) fun y2 => Option.bind (m_spec_l01Index l1 y1.1 y2.1) fun y3 => (bif decide (y3 < 0) then Option.bind (apC l1 (([(y1.1, y2.1)] : List (Int × Int)))) fun _ => some ((l1 ++ (([(y1.1, y2.1)] : List (Int × Int))), y2.2.1, y2.2.2)) else some ((l1, y2.2.1, y2.2.2)))) fun (s2 : (List (Int × Int)) × Int × Int) => match s2 with | (l2, x4, x5) => some (Ctl.next ((l2, wr (x1 - 1), x4, x5))) else some (Ctl.out ((l1, x2, x3))))
noncomputable def m_spec_l05DrawOk_bspecl00Src (l0_0 : List (Int)) (q0_1 : Int) (q0_2 : Int) (p1 : Int) : Option ((List (Int × Int)) × (Int) × (Int)) :=
  Option.bind (m_spec_l00Src_pick_bspecl00Src l0_0 q0_1 q0_2 p1) fun y4 => Option.bind (loopM (m_spec_l05DrawOk_bspecl00Src_s1 l0_0) ((([] : List (Int × Int)), wr (1 + y4.1), y4.2.1, y4.2.2))) fun (r1 : (List (Int × Int)) × Int × Int) => match r1 with | (l3, x6, x7) => some ((l3, x6, x7))

noncomputable def m_spec_B10Pins (l0 : List (Int)) (p1 : Int) : Option ((List (Int × Int))) :=
  Option.bind (m_spec_l00From l0) fun y1 => Option.bind (m_spec_l05DrawOk_bspecl00Src l0 y1.1 y1.2 p1) fun y2 => some y2.1

def m_impl_in (p0 : Int) (p1 : Int) (p2 : Int) : Option ((Bool)) :=
  (bif decide (p0 ≥ p1) then some (decide (p0 ≤ p2)) else some false)

def m_impl_IsPoint (p0_0 : Int) (p0_1 : Int) : Option ((Bool)) :=
  Option.bind (m_impl_in p0_0 0 99) fun y1 => (bif y1 then Option.bind (m_impl_in p0_1 0 99) fun y2 => some y2 else some false)

def m_impl_noPoint (p0_0 : Int) (p0_1 : Int) : Option ((Bool)) :=
  Option.bind (m_impl_IsPoint p0_0 p0_1) fun y1 => some (!y1)

def m_slices_Clone_impl_Point_impl_Point (l0 : List (Int × Int)) : Option ((List (Int × Int))) :=
  Option.bind (apC (([] : List (Int × Int))) l0) fun _ => some ((([] : List (Int × Int))) ++ l0)

def m_cmp_isNaN_int64 (p0 : Int) : Option ((Bool)) :=
  some (p0 != p0)

def m_cmp_Compare_int64 (p0 : Int) (p1 : Int) : Option ((Int)) :=
  Option.bind (m_cmp_isNaN_int64 p0) fun y1 => Option.bind (m_cmp_isNaN_int64 p1) fun y2 => (bif y1 then (bif y2 then some 0 else some ((-1))) else (bif y2 then some 1 else (bif decide (p0 < p1) then some ((-1)) else (bif decide (p0 > p1) then some 1 else some 0))))

def m_cmp_Or_int_s1 (l0 : List (Int)) (s1 : Int) : Option (Ctl (Int) (Sum (Unit) ((Int)))) :=
  (fun (x1 : Int) => (bif decide (x1 < (((l0).length : Int))) then Option.bind (geti l0 x1) fun x2 => (bif x2 != 0 then some (Ctl.out (Sum.inr x2)) else some (Ctl.next (wr (x1 + 1)))) else some (Ctl.out (Sum.inl (()))))) s1
noncomputable def m_cmp_Or_int (l0 : List (Int)) : Option ((Int)) :=
  Option.bind (loopM (m_cmp_Or_int_s1 l0) 0) fun (r1 : Sum (Unit) ((Int))) => match r1 with | Sum.inl q1 => (some 0) | Sum.inr v1 => some v1

noncomputable def m_impl_pointOrder (p0_0 : Int) (p0_1 : Int) (p1_0 : Int) (p1_1 : Int) : Option ((Int)) :=
  Option.bind (m_cmp_Compare_int64 p0_0 p1_0) fun y1 => Option.bind (m_cmp_Compare_int64 p0_1 p1_1) fun y2 => Option.bind (m_cmp_Or_int (([y1, y2] : List (Int)))) fun y3 => some y3

def m_slices_Compact_impl_Point_impl_Point_s4 (l0 : List (Int × Int)) (x1 : Int) (s1 : Int × Int × (List (Int × Int))) : Option (Ctl (Int × Int × (List (Int × Int))) (Int × (List (Int × Int)))) :=
  match s1 with | (x2, x3, l1) => (bif decide (x3 < (((slc l1 x1 (((l0).length : Int))).length : Int))) then Option.bind (Option.bind (geti (slc l1 x1 (((l0).length : Int))) x3) fun x4 => Option.bind (geti (slc l1 x1 (((l0).length : Int))) (wr (x3 - 1))) fun x5 => (bif !(x4.1 == x5.1 && x4.2 == x5.2) then Option.bind (geti (slc l1 x1 (((l0).length : Int))) x3) fun x6 => Option.bind (geti l1 x2) fun x7 => some ((wr (x2 + 1), l1.set (Int.toNat x2) ((x6.1, x6.2)))) else some ((x2, l1)))) fun (s2 : Int × (List (Int × Int))) => match s2 with | (x8, l2) => some (Ctl.next ((x8, wr (x3 + 1), l2))) else some (Ctl.out ((x2, l1))))
noncomputable def m_slices_Compact_impl_Point_impl_Point_s3 (l0 : List (Int × Int)) (s3 : Int) : Option (Ctl (Int) (Sum (Unit) ((List (Int × Int))))) :=
  (fun (x1 : Int) => (bif decide (x1 < (((l0).length : Int))) then Option.bind (geti l0 x1) fun x9 => Option.bind (geti l0 (wr (x1 - 1))) fun x10 => (bif x9.1 == x10.1 && x9.2 == x10.2 then Option.bind (slci l0 x1 (((l0).length : Int))) fun _ => Option.bind (loopM (m_slices_Compact_impl_Point_impl_Point_s4 l0 x1) ((x1, 1, l0))) fun (r1 : Int × (List (Int × Int))) => match r1 with | (x11, l3) => Option.bind (slci l3 x11 (((l3).length : Int))) fun _ => Option.bind (slci (clr ((0, 0) : Int × Int) l3 x11) 0 x11) fun _ => some (Ctl.out (Sum.inr ((clr ((0, 0) : Int × Int) l3 x11).take (Int.toNat x11)))) else some (Ctl.next (wr (x1 + 1)))) else some (Ctl.out (Sum.inl (()))))) s3
noncomputable def m_slices_Compact_impl_Point_impl_Point (l0 : List (Int × Int)) : Option ((List (Int × Int))) :=
  (bif decide ((((l0).length : Int)) < 2) then some l0 else Option.bind (loopM (m_slices_Compact_impl_Point_impl_Point_s3 l0) 1) fun (r2 : Sum (Unit) ((List (Int × Int)))) => match r2 with | Sum.inl q1 => (some l0) | Sum.inr v1 => some v1)

noncomputable def m_impl_sorted (l0 : List (Int × Int)) : Option ((List (Int × Int))) :=
  Option.bind (m_slices_Clone_impl_Point_impl_Point l0) fun y1 => Option.bind (m_slices_SortFunc_impl_Point_impl_Point_impl_pointOrder y1) fun y2 => Option.bind (m_slices_Compact_impl_Point_impl_Point y2) fun y3 => some y3

def m_slices_IndexFunc_impl_Point_impl_Point_impl_noPoint_s1 (l0 : List (Int × Int)) (s1 : Int) : Option (Ctl (Int) (Sum (Unit) ((Int)))) :=
  (fun (x1 : Int) => (bif decide (x1 < (((l0).length : Int))) then Option.bind (geti l0 x1) fun x2 => Option.bind (m_impl_noPoint x2.1 x2.2) fun y1 => (bif y1 then some (Ctl.out (Sum.inr x1)) else some (Ctl.next (wr (x1 + 1)))) else some (Ctl.out (Sum.inl (()))))) s1
noncomputable def m_slices_IndexFunc_impl_Point_impl_Point_impl_noPoint (l0 : List (Int × Int)) : Option ((Int)) :=
  Option.bind (loopM (m_slices_IndexFunc_impl_Point_impl_Point_impl_noPoint_s1 l0) 0) fun (r1 : Sum (Unit) ((Int))) => match r1 with | Sum.inl q1 => (some ((-1))) | Sum.inr v1 => some v1

noncomputable def m_slices_ContainsFunc_impl_Point_impl_Point_impl_noPoint (l0 : List (Int × Int)) : Option ((Bool)) :=
  Option.bind (m_slices_IndexFunc_impl_Point_impl_Point_impl_noPoint l0) fun y1 => some (decide (y1 ≥ 0))

noncomputable def m_impl_pinsOk (l0 : List (Int × Int)) (p1 : Int) : Option ((Bool)) :=
  (bif decide ((((l0).length : Int)) ≥ 1) then (bif decide ((((l0).length : Int)) ≤ p1) then Option.bind (m_slices_ContainsFunc_impl_Point_impl_Point_impl_noPoint l0) fun y1 => (bif !y1 then Option.bind (m_impl_sorted l0) fun y2 => some ((((y2).length : Int)) == (((l0).length : Int))) else some false) else some false) else some false)

noncomputable def m_impl_ArePins (l0 : List (Int × Int)) : Option ((Bool)) :=
  Option.bind (m_impl_pinsOk l0 20) fun y1 => some y1

def m_impl_size (p0 : Int) : Option ((Int)) :=
  some (if (wr (0 - p0)) > p0 then (wr (0 - p0)) else p0)

def m_impl_far (p0_0 : Int) (p0_1 : Int) (p1_0 : Int) (p1_1 : Int) : Option ((Int)) :=
  Option.bind (m_impl_size (wr (p0_0 - p1_0))) fun y1 => Option.bind (m_impl_size (wr (p0_1 - p1_1))) fun y2 => some (wr (y1 + y2))

def m_slices_Compare_int64_int64_s1 (l0 : List (Int)) (l1 : List (Int)) (s1 : Int) : Option (Ctl (Int) (Sum (Unit) ((Int)))) :=
  (fun (x1 : Int) => (bif decide (x1 < (((l0).length : Int))) then Option.bind (geti l0 x1) fun x2 => (bif decide (x1 ≥ (((l1).length : Int))) then some (Ctl.out (Sum.inr 1)) else Option.bind (geti l1 x1) fun x3 => Option.bind (m_cmp_Compare_int64 x2 x3) fun y1 => (bif y1 != 0 then some (Ctl.out (Sum.inr y1)) else some (Ctl.next (wr (x1 + 1))))) else some (Ctl.out (Sum.inl (()))))) s1
noncomputable def m_slices_Compare_int64_int64 (l0 : List (Int)) (l1 : List (Int)) : Option ((Int)) :=
  Option.bind (loopM (m_slices_Compare_int64_int64_s1 l0 l1) 0) fun (r1 : Sum (Unit) ((Int))) => match r1 with | Sum.inl q1 => ((bif decide ((((l0).length : Int)) < (((l1).length : Int))) then some ((-1)) else some 0)) | Sum.inr v1 => some v1

def m_impl_spanning_s13 (l0 : List (Int × Int)) (l1 : List (Bool)) (x1 : Int) (s1 : Int × Int × Int) : Option (Ctl (Int × Int × Int) (Int × Int)) :=
  match s1 with | (x2, x3, x4) => (bif decide (x4 < (((l0).length : Int))) then Option.bind (Option.bind (geti l1 x1) fun x5 => Option.bind (geti l1 x4) fun x6 => (bif !(x5 == x6) then (bif decide (x2 < 0) then some ((x1, x4)) else Option.bind (geti l0 x1) fun x7 => Option.bind (geti l0 x4) fun x8 => Option.bind (geti l0 x2) fun x9 => Option.bind (geti l0 x3) fun x10 => Option.bind (m_impl_far x7.1 x7.2 x8.1 x8.2) fun y1 => Option.bind (m_impl_far x9.1 x9.2 x10.1 x10.2) fun y2 => (bif decide (y1 < y2) then some ((x1, x4)) else some ((x2, x3)))) else some ((x2, x3)))) fun (s2 : Int × Int) => match s2 with | (x11, x12) => some (Ctl.next ((x11, x12, wr (x4 + 1)))) else some (Ctl.out ((x2, x3))))
noncomputable def m_impl_spanning_s12 (l0 : List (Int × Int)) (l1 : List (Bool)) (s3 : Int × Int × Int) : Option (Ctl (Int × Int × Int) (Int × Int)) :=
  match s3 with | (x13, x14, x1) => (bif decide (x1 < (((l0).length : Int))) then Option.bind (loopM (m_impl_spanning_s13 l0 l1 x1) ((x13, x14, wr (x1 + 1)))) fun (r1 : Int × Int) => match r1 with | (x15, x16) => some (Ctl.next ((x15, x16, wr (x1 + 1)))) else some (Ctl.out ((x13, x14))))
noncomputable def m_impl_spanning_s9 (l0 : List (Int × Int)) (s4 : (List (List (Int))) × Int × (List (Bool))) : Option (Ctl ((List (List (Int))) × Int × (List (Bool))) ((List (List (Int))) × Int)) :=
  match s4 with | (l2, x17, l1) => (bif decide ((wr ((((l2).length : Int)) + 1)) < (((l0).length : Int))) then Option.bind (loopM (m_impl_spanning_s12 l0 l1) (((-1), (-1), 0))) fun (r2 : Int × Int) => match r2 with | (x18, x19) => Option.bind (geti l1 x18) fun x20 => Option.bind (geti (l1.set (Int.toNat x18) true) x19) fun x21 => Option.bind (geti l0 x18) fun x22 => Option.bind (geti l0 x19) fun x23 => Option.bind (apC l2 (([([x18, x19] : List (Int))] : List (List (Int))))) fun _ => Option.bind (m_impl_far x22.1 x22.2 x23.1 x23.2) fun y3 => some (Ctl.next ((l2 ++ (([([x18, x19] : List (Int))] : List (List (Int)))), wr (x17 + y3), (l1.set (Int.toNat x18) true).set (Int.toNat x19) true))) else some (Ctl.out ((l2, x17))))
noncomputable def m_impl_spanning (l0 : List (Int × Int)) : Option ((List (List (Int))) × (Int)) :=
  Option.bind (mkC (((l0).length : Int))) fun _ => Option.bind (geti (List.replicate (Int.toNat (((l0).length : Int))) ((false : Bool))) 0) fun x24 => Option.bind (loopM (m_impl_spanning_s9 l0) ((([] : List (List (Int))), 0, (List.replicate (Int.toNat (((l0).length : Int))) ((false : Bool))).set (Int.toNat 0) true))) fun (r3 : (List (List (Int))) × Int) => match r3 with | (l3, x25) => Option.bind (m_slices_SortFunc_int64_int64_slices_Compare_int64_int64 l3) fun y4 => some ((y4, x25))

noncomputable def m_impl_SpanningTree (l0 : List (Int × Int)) : Option ((List (List (Int))) × (Int) × (Bool)) :=
  Option.bind (m_impl_ArePins l0) fun y1 => (bif !y1 then some (([], 0, false)) else Option.bind (m_impl_spanning l0) fun y2 => some ((y2.1, y2.2, true)))

def m_impl_hanan_s4 (l0 : List (Int × Int)) (x1 : Int × Int) (s1 : (List (Int × Int)) × Int) : Option (Ctl ((List (Int × Int)) × Int) ((List (Int × Int)))) :=
  match s1 with | (l1, x2) => (bif decide (x2 < (((l0).length : Int))) then Option.bind (geti l0 x2) fun x3 => Option.bind (apC l1 (([(x1.1, x3.2)] : List (Int × Int)))) fun _ => some (Ctl.next ((l1 ++ (([(x1.1, x3.2)] : List (Int × Int))), wr (x2 + 1)))) else some (Ctl.out l1))
noncomputable def m_impl_hanan_s3 (l0 : List (Int × Int)) (s2 : (List (Int × Int)) × Int) : Option (Ctl ((List (Int × Int)) × Int) ((List (Int × Int)))) :=
  match s2 with | (l2, x4) => (bif decide (x4 < (((l0).length : Int))) then Option.bind (geti l0 x4) fun x1 => Option.bind (loopM (m_impl_hanan_s4 l0 x1) ((l2, 0))) fun (r1 : (List (Int × Int))) => (fun (l3 : List (Int × Int)) => some (Ctl.next ((l3, wr (x4 + 1))))) r1 else some (Ctl.out l2))
noncomputable def m_impl_hanan (l0 : List (Int × Int)) : Option ((List (Int × Int))) :=
  Option.bind (loopM (m_impl_hanan_s3 l0) ((([] : List (Int × Int)), 0))) fun (r2 : (List (Int × Int))) => (fun (l4 : List (Int × Int)) => Option.bind (m_impl_sorted l4) fun y1 => some y1) r2

def m_slices_Clone_int64_int64 (l0 : List (Int)) : Option ((List (Int))) :=
  Option.bind (apC (([] : List (Int))) l0) fun _ => some ((([] : List (Int))) ++ l0)

def m_slices_Index_impl_Point_impl_Point_s1 (l0 : List (Int × Int)) (p1_0 : Int) (p1_1 : Int) (s1 : Int) : Option (Ctl (Int) (Sum (Unit) ((Int)))) :=
  (fun (x1 : Int) => (bif decide (x1 < (((l0).length : Int))) then Option.bind (geti l0 x1) fun x2 => (bif p1_0 == x2.1 && p1_1 == x2.2 then some (Ctl.out (Sum.inr x1)) else some (Ctl.next (wr (x1 + 1)))) else some (Ctl.out (Sum.inl (()))))) s1
noncomputable def m_slices_Index_impl_Point_impl_Point (l0 : List (Int × Int)) (p1_0 : Int) (p1_1 : Int) : Option ((Int)) :=
  Option.bind (loopM (m_slices_Index_impl_Point_impl_Point_s1 l0 p1_0 p1_1) 0) fun (r1 : Sum (Unit) ((Int))) => match r1 with | Sum.inl q1 => (some ((-1))) | Sum.inr v1 => some v1

noncomputable def m_impl_steiner_s30 (l1 : List (List (Int))) (x1 : Int) (x2 : Int) (s1 : Int × (List (Int))) : Option (Ctl (Int × (List (Int))) ((List (Int)))) :=
  match s1 with | (x3, l2) => (bif decide (x3 > 0) then Option.bind (geti l2 x2) fun x4 => Option.bind (geti l1 x3) fun x5 => Option.bind (geti x5 x2) fun x6 => Option.bind (geti l1 (andNI x1 x3)) fun x7 => Option.bind (geti x7 x2) fun x8 => Option.bind (geti l2 x2) fun x9 => some (Ctl.next ((andI (wr (x3 - 1)) x1, l2.set (Int.toNat x2) (if (wr (x6 + x8)) < x4 then (wr (x6 + x8)) else x4)))) else some (Ctl.out l2))
noncomputable def m_impl_steiner_s29 (l0 : List (Int × Int)) (x1 : Int) (x2 : Int) (x10 : Int × Int) (s2 : Int × (List (Int))) : Option (Ctl (Int × (List (Int))) ((List (Int)))) :=
  match s2 with | (x11, l3) => (bif decide (x11 < (wr ((((l0).length : Int)) - 1))) then Option.bind (Option.bind (p0C x11) fun u1 => (bif x1 == (shlI 1 x11) then Option.bind (geti l0 x11) fun x12 => Option.bind (m_impl_far x10.1 x10.2 x12.1 x12.2) fun y1 => Option.bind (geti l3 x2) fun x13 => some (l3.set (Int.toNat x2) y1) else some l3)) fun (s3 : (List (Int))) => (fun (l4 : List (Int)) => some (Ctl.next ((wr (x11 + 1), l4)))) s3 else some (Ctl.out l3))
noncomputable def m_impl_steiner_s34 (y2 : (List (Int × Int))) (l5 : List (Int)) (x14 : Int) (x15 : Int × Int) (s4 : Int × (List (Int))) : Option (Ctl (Int × (List (Int))) ((List (Int)))) :=
  match s4 with | (x16, l6) => (bif decide (x16 < (((y2).length : Int))) then Option.bind (geti y2 x16) fun x17 => Option.bind (geti l6 x14) fun x18 => Option.bind (geti l5 x16) fun x19 => Option.bind (m_impl_far x15.1 x15.2 x17.1 x17.2) fun y3 => Option.bind (geti l6 x14) fun x20 => some (Ctl.next ((wr (x16 + 1), l6.set (Int.toNat x14) (if (wr (x19 + y3)) < x18 then (wr (x19 + y3)) else x18)))) else some (Ctl.out l6))
noncomputable def m_impl_steiner_s33 (y2 : (List (Int × Int))) (l5 : List (Int)) (s5 : Int × (List (Int))) : Option (Ctl (Int × (List (Int))) ((List (Int)))) :=
  match s5 with | (x14, l7) => (bif decide (x14 < (((y2).length : Int))) then Option.bind (geti y2 x14) fun x15 => Option.bind (loopM (m_impl_steiner_s34 y2 l5 x14 x15) ((0, l7))) fun (r1 : (List (Int))) => (fun (l8 : List (Int)) => some (Ctl.next ((wr (x14 + 1), l8)))) r1 else some (Ctl.out l7))
noncomputable def m_impl_steiner_s28 (l0 : List (Int × Int)) (y2 : (List (Int × Int))) (l1 : List (List (Int))) (x1 : Int) (s6 : Int × (List (Int))) : Option (Ctl (Int × (List (Int))) ((List (Int)))) :=
  match s6 with | (x2, l9) => (bif decide (x2 < (((y2).length : Int))) then Option.bind (geti y2 x2) fun x10 => Option.bind (geti l9 x2) fun x21 => Option.bind (loopM (m_impl_steiner_s29 l0 x1 x2 x10) ((0, l9.set (Int.toNat x2) 1000000000))) fun (r2 : (List (Int))) => (fun (l10 : List (Int)) => Option.bind (loopM (m_impl_steiner_s30 l1 x1 x2) ((andI (wr (x1 - 1)) x1, l10))) fun (r3 : (List (Int))) => (fun (l11 : List (Int)) => some (Ctl.next ((wr (x2 + 1), l11)))) r3) r2 else some (Ctl.out l9))
noncomputable def m_impl_steiner_s23 (l0 : List (Int × Int)) (y2 : (List (Int × Int))) (s7 : (List (List (Int))) × Int) : Option (Ctl ((List (List (Int))) × Int) ((List (List (Int))))) :=
  match s7 with | (l1, x1) => Option.bind (p0C (wr ((((l0).length : Int)) - 1))) fun u2 => (bif decide (x1 < (shlI 1 (wr ((((l0).length : Int)) - 1)))) then Option.bind (mkC (((y2).length : Int))) fun _ => Option.bind (loopM (m_impl_steiner_s28 l0 y2 l1 x1) ((0, List.replicate (Int.toNat (((y2).length : Int))) ((0 : Int))))) fun (r4 : (List (Int))) => (fun (l5 : List (Int)) => Option.bind (m_slices_Clone_int64_int64 l5) fun y4 => Option.bind (loopM (m_impl_steiner_s33 y2 l5) ((0, y4))) fun (r5 : (List (Int))) => (fun (l12 : List (Int)) => Option.bind (geti l1 x1) fun x22 => some (Ctl.next ((l1.set (Int.toNat x1) l12, wr (x1 + 1))))) r5) r4 else some (Ctl.out l1))
noncomputable def m_impl_steiner (l0 : List (Int × Int)) : Option ((Int)) :=
  Option.bind (m_impl_hanan l0) fun y2 => (bif (wr ((((l0).length : Int)) - 1)) == 0 then some 0 else Option.bind (p0C (wr ((((l0).length : Int)) - 1))) fun u3 => Option.bind (mkC (shlI 1 (wr ((((l0).length : Int)) - 1)))) fun _ => Option.bind (loopM (m_impl_steiner_s23 l0 y2) ((List.replicate (Int.toNat (shlI 1 (wr ((((l0).length : Int)) - 1)))) ([] : List (Int)), 1))) fun (r6 : (List (List (Int)))) => (fun (l13 : List (List (Int))) => Option.bind (p0C (wr ((((l0).length : Int)) - 1))) fun u4 => Option.bind (geti l13 (wr ((shlI 1 (wr ((((l0).length : Int)) - 1))) - 1))) fun x23 => Option.bind (geti l0 (wr ((((l0).length : Int)) - 1))) fun x24 => Option.bind (m_slices_Index_impl_Point_impl_Point y2 x24.1 x24.2) fun y5 => Option.bind (geti x23 y5) fun x25 => some x25) r6)

noncomputable def m_impl_SteinerLength (l0 : List (Int × Int)) : Option ((Int) × (Bool)) :=
  Option.bind (m_impl_pinsOk l0 7) fun y1 => (bif !y1 then some ((0, false)) else Option.bind (m_impl_steiner l0) fun y2 => some ((y2, true)))

def m_laws_b10Abs (p0 : Int) : Option ((Int)) :=
  (bif decide (p0 < 0) then some (wr (0 - p0)) else some p0)

def m_laws_b10Far (p0_0 : Int) (p0_1 : Int) (p1_0 : Int) (p1_1 : Int) : Option ((Int)) :=
  Option.bind (m_laws_b10Abs (wr (p0_0 - p1_0))) fun y1 => Option.bind (m_laws_b10Abs (wr (p0_1 - p1_1))) fun y2 => some (wr (y1 + y2))

def m_laws_b10At (l0 : List (Int)) (p1 : Int) (p2 : Int) : Option ((Int)) :=
  (bif decide (p2 ≤ 1) then some 0 else (bif decide (p1 < (((l0).length : Int))) then Option.bind (geti l0 p1) fun x1 => Option.bind (nzC p2) fun u1 => some (Int.tmod (wr x1) p2) else Option.bind (nzC p2) fun u2 => some (Int.tmod (wr ((wr (p1 * 37)) + 11)) p2)))

def m_laws_b10Pin (l0 : List (Int)) (p1 : Int) : Option ((Int × Int)) :=
  Option.bind (m_laws_b10At l0 p1 10) fun y1 => Option.bind (m_laws_b10At l0 (wr (p1 + 1)) 10) fun y2 => some ((y1, y2))

noncomputable def m_slices_Contains_impl_Point_impl_Point (l0 : List (Int × Int)) (p1_0 : Int) (p1_1 : Int) : Option ((Bool)) :=
  Option.bind (m_slices_Index_impl_Point_impl_Point l0 p1_0 p1_1) fun y1 => some (decide (y1 ≥ 0))

def m_slices_Clip_impl_Point_impl_Point (l0 : List (Int × Int)) : Option ((List (Int × Int))) :=
  Option.bind (slci l0 0 (((l0).length : Int))) fun y1 => some y1

noncomputable def m_impl_gain (l0 : List (Int × Int)) (p1_0 : Int) (p1_1 : Int) : Option ((Int)) :=
  Option.bind (m_slices_Contains_impl_Point_impl_Point l0 p1_0 p1_1) fun y1 => (bif y1 then some 0 else Option.bind (m_impl_spanning l0) fun y2 => Option.bind (Option.bind (apC l0 (([(p1_0, p1_1)] : List (Int × Int)))) fun _ => Option.bind (m_impl_spanning (l0 ++ (([(p1_0, p1_1)] : List (Int × Int))))) fun y3 => some y3.2) fun (s1 : Int) => (fun (x1 : Int) => some (wr (y2.2 - x1))) s1)

noncomputable def m_impl_GainOf (l0 : List (Int × Int)) (p1_0 : Int) (p1_1 : Int) : Option ((Int) × (Bool)) :=
  Option.bind (m_impl_pinsOk l0 19) fun y1 => (bif !y1 then some ((0, false)) else Option.bind (m_impl_IsPoint p1_0 p1_1) fun y2 => (bif !y2 then some ((0, false)) else Option.bind (m_impl_gain l0 p1_0 p1_1) fun y3 => some ((y3, true))))

def m_laws_b10In_s1 (l0 : List (Int × Int)) (p1_0 : Int) (p1_1 : Int) (s1 : Int) : Option (Ctl (Int) (Sum (Unit) ((Bool)))) :=
  (fun (x1 : Int) => (bif decide (x1 < (((l0).length : Int))) then Option.bind (geti l0 x1) fun x2 => (bif x2.1 == p1_0 && x2.2 == p1_1 then some (Ctl.out (Sum.inr true)) else some (Ctl.next (wr (x1 + 1)))) else some (Ctl.out (Sum.inl (()))))) s1
noncomputable def m_laws_b10In (l0 : List (Int × Int)) (p1_0 : Int) (p1_1 : Int) : Option ((Bool)) :=
  Option.bind (loopM (m_laws_b10In_s1 l0 p1_0 p1_1) 0) fun (r1 : Sum (Unit) ((Bool))) => match r1 with | Sum.inl q1 => (some false) | Sum.inr v1 => some v1

noncomputable def m_laws_FnTrees_s5 (y1 : (List (Int × Int))) (x1 : Int) (x2 : Int) (s1 : Int × (List (Int))) : Option (Ctl (Int × (List (Int))) ((List (Int)))) :=
  match s1 with | (x3, l2) => (bif decide (x3 < (((y1).length : Int))) then Option.bind (Option.bind (geti l2 x3) fun x4 => (bif x4 == x2 then Option.bind (geti l2 x3) fun x5 => some (l2.set (Int.toNat x3) x1) else some l2)) fun (s2 : (List (Int))) => (fun (l3 : List (Int)) => some (Ctl.next ((wr (x3 + 1), l3)))) s2 else some (Ctl.out l2))
noncomputable def m_laws_FnTrees_s6 (l1 : List (Int)) (y1 : (List (Int × Int))) (s3 : Int × Int) : Option (Ctl (Int × Int) (Int)) :=
  match s3 with | (x6, x7) => (bif decide (x7 < (((y1).length : Int))) then Option.bind (geti y1 x7) fun x8 => Option.bind (m_laws_b10At l1 (wr (x7 + 2)) x7) fun y2 => Option.bind (geti y1 y2) fun x9 => Option.bind (m_laws_b10Far x8.1 x8.2 x9.1 x9.2) fun y3 => some (Ctl.next ((wr (x6 + y3), wr (x7 + 1)))) else some (Ctl.out x6))
noncomputable def m_laws_FnTrees_s4 (y1 : (List (Int × Int))) (y4 : (List (List (Int))) × (Int) × (Bool)) (s4 : Int × Int × (List (Int))) : Option (Ctl (Int × Int × (List (Int))) (Sum (Int) ((Bool)))) :=
  match s4 with | (x10, x11, l4) => (bif decide (x11 < (((y4.1).length : Int))) then Option.bind (geti y4.1 x11) fun x12 => (bif (((x12).length : Int)) != 2 then some (Ctl.out (Sum.inr false)) else Option.bind (geti y4.1 x11) fun x13 => Option.bind (geti x13 0) fun x14 => (bif decide (x14 < 0) then some (Ctl.out (Sum.inr false)) else Option.bind (geti y4.1 x11) fun x15 => Option.bind (geti x15 0) fun x16 => Option.bind (geti y4.1 x11) fun x17 => Option.bind (geti x17 1) fun x18 => (bif decide (x16 ≥ x18) then some (Ctl.out (Sum.inr false)) else Option.bind (geti y4.1 x11) fun x19 => Option.bind (geti x19 1) fun x20 => (bif decide (x20 ≥ (((y1).length : Int))) then some (Ctl.out (Sum.inr false)) else Option.bind (geti y4.1 x11) fun x21 => Option.bind (geti x21 0) fun x22 => Option.bind (geti l4 x22) fun x1 => Option.bind (geti y4.1 x11) fun x23 => Option.bind (geti x23 1) fun x24 => Option.bind (geti l4 x24) fun x2 => (bif x1 == x2 then some (Ctl.out (Sum.inr false)) else Option.bind (loopM (m_laws_FnTrees_s5 y1 x1 x2) ((0, l4))) fun (r1 : (List (Int))) => (fun (l5 : List (Int)) => Option.bind (geti y4.1 x11) fun x25 => Option.bind (geti x25 0) fun x26 => Option.bind (geti y1 x26) fun x27 => Option.bind (geti y4.1 x11) fun x28 => Option.bind (geti x28 1) fun x29 => Option.bind (geti y1 x29) fun x30 => Option.bind (m_laws_b10Far x27.1 x27.2 x30.1 x30.2) fun y5 => some (Ctl.next ((wr (x10 + y5), wr (x11 + 1), l5)))) r1))))) else some (Ctl.out (Sum.inl x10)))
noncomputable def m_laws_FnTrees_s1 (y1 : (List (Int × Int))) (s5 : Int × (List (Int))) : Option (Ctl (Int × (List (Int))) ((List (Int)))) :=
  match s5 with | (x31, l6) => (bif decide (x31 < (((y1).length : Int))) then Option.bind (geti l6 x31) fun x32 => some (Ctl.next ((wr (x31 + 1), l6.set (Int.toNat x31) x31))) else some (Ctl.out l6))
noncomputable def m_laws_FnTrees (l0 : List (Int)) (l1 : List (Int)) : Option ((Bool)) :=
  Option.bind (m_laws_b10Long l0 l1) fun y6 => (bif y6 then some true else Option.bind (m_spec_B10Pins l0 6) fun y1 => Option.bind (m_impl_SpanningTree y1) fun y4 => Option.bind (m_impl_SteinerLength y1) fun y7 => (bif !y4.2.2 then some false else (bif !y7.2 then some false else (bif (((y4.1).length : Int)) != (wr ((((y1).length : Int)) - 1)) then some false else Option.bind (m_impl_ArePins y1) fun y8 => (bif !y8 then some false else Option.bind (mkC (((y1).length : Int))) fun _ => Option.bind (loopM (m_laws_FnTrees_s1 y1) ((0, List.replicate (Int.toNat (((y1).length : Int))) ((0 : Int))))) fun (r2 : (List (Int))) => (fun (l7 : List (Int)) => Option.bind (loopM (m_laws_FnTrees_s4 y1 y4) ((0, 0, l7))) fun (r3 : Sum (Int) ((Bool))) => match r3 with | Sum.inl q1 => ((fun (x33 : Int) => Option.bind (loopM (m_laws_FnTrees_s6 l1 y1) ((0, 1))) fun (r4 : Int) => (fun (x34 : Int) => Option.bind (m_laws_b10Pin l1 0) fun y9 => Option.bind (m_impl_GainOf y1 y9.1 y9.2) fun y10 => (bif !y10.2 then some false else (bif x33 != y4.2.1 then some false else (bif decide (y4.2.1 > x34) then some false else (bif decide ((wr (2 * y4.2.1)) > (wr (3 * y7.1))) then some false else (bif decide (y7.1 > (wr (y4.2.1 - y10.1))) then some false else Option.bind (Option.bind (apC (([] : List (Int × Int))) y1) fun _ => Option.bind (apC ((([] : List (Int × Int))) ++ y1) (([(y9.1, y9.2)] : List (Int × Int)))) fun _ => some (((([] : List (Int × Int))) ++ y1) ++ (([(y9.1, y9.2)] : List (Int × Int))))) fun (s6 : (List (Int × Int))) => (fun (l8 : List (Int × Int)) => Option.bind (m_laws_b10In y1 y9.1 y9.2) fun y11 => (bif y11 then some (y10.1 == 0) else Option.bind (m_impl_SpanningTree l8) fun y12 => (bif y12.2.2 then some (y12.2.1 == (wr (y4.2.1 - y10.1))) else some false))) s6)))))) r4) q1) | Sum.inr v1 => some v1) r2)))))

end Go.Proofs.Ytooogkcoedampaa
