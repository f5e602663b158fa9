/- Printed models: what each function reckons, in plain Lean. -/
import Derived.Test.YtgaecldkiijmpaaApp
set_option linter.unusedSimpArgs false
set_option linter.unusedVariables false
namespace Go.Proofs.Ytgaecldkiijmpaa
open Go.RowKit

def m_laws_r8Long (l0 : List (Int)) (l1 : List (Int)) : Option ((Bool)) :=
  (bif decide ((((l0).length : Int)) > 48) then some true else some (decide ((((l1).length : Int)) > 48)))

def m_laws_r8At (l0 : List (Int)) (p1 : Int) (p2 : Int) : Option ((Int)) :=
  (bif decide (p2 ≤ 1) then some 0 else (bif decide (p1 ≥ (((l0).length : Int))) then some 0 else Option.bind (geti l0 p1) fun x4 => Option.bind (nzC p2) fun u6 => some (Int.tmod (wr x4) p2)))

def m_spec_l00From (l0 : List (Int)) : Option ((Int × Int)) :=
  some ((0, 0))

def m_spec_l00Src_next_bspecl00Src (l0_0 : List (Int)) (q0_1 : Int) (q0_2 : Int) : Option ((Int) × (Int) × (Int)) :=
  Option.bind ((bif decide (q0_1 < (((l0_0).length : Int))) then Option.bind (geti l0_0 q0_1) fun x50 => some (wr x50) else some 0)) fun (s29 : Int) => (fun (x25 : Int) => (bif decide ((wr (q0_1 + 1)) ≤ (((l0_0).length : Int))) then some ((x25, wr (q0_1 + 1), wu ((wu ((wu (q0_2 * 6364136223846793005)) + (wu x25))) + 1442695040888963407))) else some ((wr (andU (shrU (wu ((wu ((wu (q0_2 * 6364136223846793005)) + (wu x25))) + 1442695040888963407)) 40) 255), wr (q0_1 + 1), wu ((wu ((wu (q0_2 * 6364136223846793005)) + (wu x25))) + 1442695040888963407))))) s29

def m_spec_l00Src_pick_bspecl00Src (l0_0 : List (Int)) (q0_1 : Int) (q0_2 : Int) (p1 : Int) : Option ((Int) × (Int) × (Int)) :=
  (bif decide (p1 ≤ 1) then some ((0, q0_1, q0_2)) else Option.bind (m_spec_l00Src_next_bspecl00Src l0_0 q0_1 q0_2) fun y4 => Option.bind ((bif decide (p1 > 200) then Option.bind (m_spec_l00Src_next_bspecl00Src l0_0 y4.2.1 y4.2.2) fun y25 => some ((wr ((wr (y4.1 * 256)) + y25.1), y25.2.1, y25.2.2)) else some ((y4.1, y4.2.1, y4.2.2)))) fun (s22 : Int × Int × Int) => match s22 with | (x16, x17, x18) => Option.bind (nzC p1) fun u30 => some ((Int.tmod x16 p1, x17, x18)))

noncomputable def m_spec_R8Row_s1 (l0 : List (Int)) (p1 : Int) (s121 : (List (Int)) × Int × Int × Int × Int) : Option (Ctl ((List (Int)) × Int × Int × Int × Int) ((List (Int)))) :=
  match s121 with | (l103, x108, x109, x110, x111) => (bif decide (x109 < p1) then Option.bind (apC l103 (([x108] : List (Int)))) fun _ => Option.bind (m_spec_l00Src_pick_bspecl00Src l0 x110 x111 4) fun y145 => some (Ctl.next ((l103 ++ (([x108] : List (Int))), wr (x108 + (wr (1 + y145.1))), wr (x109 + 1), y145.2.1, y145.2.2))) else some (Ctl.out l103))
noncomputable def m_spec_R8Row (l0 : List (Int)) (p1 : Int) : Option ((List (Int))) :=
  Option.bind (m_spec_l00From l0) fun y2 => Option.bind (m_spec_l00Src_pick_bspecl00Src l0 y2.1 y2.2 5) fun y17 => Option.bind (loopM (m_spec_R8Row_s1 l0 p1) ((([] : List (Int)), y17.1, 0, y17.2.1, y17.2.2))) fun (r118 : (List (Int))) => (fun (l94 : List (Int)) => some l94) r118

def m_impl_in (p0 : Int) (p1 : Int) (p2 : Int) : Option ((Bool)) :=
  (bif decide (p0 ≥ p1) then some (decide (p0 ≤ p2)) else some false)

def m_impl_rowOk_s1 (l0 : List (Int)) (s47 : Int) : Option (Ctl (Int) (Sum (Unit) ((Bool)))) :=
  (fun (x41 : Int) => (bif decide (x41 < (((l0).length : Int))) then Option.bind (geti l0 x41) fun x51 => Option.bind (m_impl_in x51 0 99) fun y53 => (bif !y53 then some (Ctl.out (Sum.inr false)) else (bif decide (x41 > 0) then Option.bind (geti l0 (wr (x41 - 1))) fun x60 => (bif decide (x60 ≥ x51) then some (Ctl.out (Sum.inr false)) else some (Ctl.next (wr (x41 + 1)))) else some (Ctl.next (wr (x41 + 1))))) else some (Ctl.out (Sum.inl (()))))) s47
noncomputable def m_impl_rowOk (l0 : List (Int)) : Option ((Bool)) :=
  Option.bind (loopM (m_impl_rowOk_s1 l0) 0) fun (r44 : Sum (Unit) ((Bool))) => match r44 with | Sum.inl q71 => (Option.bind (m_impl_in (((l0).length : Int)) 1 20) fun y66 => some y66) | Sum.inr v70 => some v70

noncomputable def m_impl_ValidRiver (l0 : List (Int)) (l1 : List (Int)) : Option ((Bool)) :=
  Option.bind (m_impl_rowOk l0) fun y3 => (bif y3 then Option.bind (m_impl_rowOk l1) fun y8 => (bif y8 then some ((((l0).length : Int)) == (((l1).length : Int))) else some false) else some false)

def m_impl_tight_s1 (l0 : List (Int)) (l1 : List (Int)) (p2 : Int) (s92 : Int) : Option (Ctl (Int) (Sum (Unit) ((Int) × (Int)))) :=
  (fun (x85 : Int) => (bif decide ((wr (x85 + p2)) < (((l0).length : Int))) then Option.bind (geti l1 (wr (x85 + p2))) fun x108 => Option.bind (geti l0 x85) fun x110 => (bif decide ((wr (x108 - x110)) < p2) then some (Ctl.out (Sum.inr ((x85, 0)))) else Option.bind (geti l0 (wr (x85 + p2))) fun x126 => Option.bind (geti l1 x85) fun x128 => (bif decide ((wr (x126 - x128)) < p2) then some (Ctl.out (Sum.inr ((x85, 1)))) else some (Ctl.next (wr (x85 + 1))))) else some (Ctl.out (Sum.inl (()))))) s92
noncomputable def m_impl_tight (l0 : List (Int)) (l1 : List (Int)) (p2 : Int) : Option ((Int) × (Int)) :=
  Option.bind (loopM (m_impl_tight_s1 l0 l1 p2) 0) fun (r89 : Sum (Unit) ((Int) × (Int))) => match r89 with | Sum.inl q133 => (some (((-1), 0))) | Sum.inr v132 => some v132

noncomputable def m_impl_fits (l0 : List (Int)) (l1 : List (Int)) (p2 : Int) : Option ((Bool)) :=
  Option.bind (m_impl_tight l0 l1 p2) fun y3 => some (decide (y3.1 < 0))

noncomputable def m_impl_LeastTracks_s1 (l0 : List (Int)) (l1 : List (Int)) (s36 : Int) : Option (Ctl (Int) (Int)) :=
  (fun (x29 : Int) => Option.bind (m_impl_fits l0 l1 x29) fun y39 => (bif !y39 then some (Ctl.next (wr (x29 + 1))) else some (Ctl.out x29))) s36
noncomputable def m_impl_LeastTracks (l0 : List (Int)) (l1 : List (Int)) : Option ((Int) × (Bool)) :=
  Option.bind (m_impl_ValidRiver l0 l1) fun y3 => (bif !y3 then some ((0, false)) else Option.bind (loopM (m_impl_LeastTracks_s1 l0 l1) 0) fun (r33 : Int) => (fun (x26 : Int) => some ((x26, true))) r33)

noncomputable def m_impl_tracksOk (l0 : List (Int)) (l1 : List (Int)) (p2 : Int) : Option ((Bool)) :=
  Option.bind (m_impl_ValidRiver l0 l1) fun y3 => (bif y3 then Option.bind (m_impl_in p2 0 20) fun y8 => some y8 else some false)

noncomputable def m_impl_FitsRiver (l0 : List (Int)) (l1 : List (Int)) (p2 : Int) : Option ((Bool)) :=
  Option.bind (m_impl_tracksOk l0 l1 p2) fun y3 => (bif y3 then Option.bind (m_impl_fits l0 l1 p2) fun y8 => some y8 else some false)

def m_impl_corners_s1 (l0 : List (Int × Int)) (s506 : (List (Int × Int)) × Int) : Option (Ctl ((List (Int × Int)) × Int) ((List (Int × Int)))) :=
  match s506 with | (l493, x498) => (bif decide (x498 < (((l0).length : Int))) then Option.bind (Option.bind (geti l0 x498) fun x631 => (bif x498 == 0 then Option.bind (apC l493 (([(x631.1, x631.2)] : List (Int × Int)))) fun _ => some (l493 ++ (([(x631.1, x631.2)] : List (Int × Int)))) else (bif x498 == (wr ((((l0).length : Int)) - 1)) then Option.bind (apC l493 (([(x631.1, x631.2)] : List (Int × Int)))) fun _ => some (l493 ++ (([(x631.1, x631.2)] : List (Int × Int)))) else Option.bind (geti l0 (wr (x498 - 1))) fun x708 => Option.bind (geti l0 (wr (x498 + 1))) fun x710 => (bif x708.1 != x710.1 then Option.bind (geti l0 (wr (x498 - 1))) fun x713 => Option.bind (geti l0 (wr (x498 + 1))) fun x715 => (bif x713.2 != x715.2 then Option.bind (apC l493 (([(x631.1, x631.2)] : List (Int × Int)))) fun _ => some (l493 ++ (([(x631.1, x631.2)] : List (Int × Int)))) else some l493) else some l493)))) fun (s629 : (List (Int × Int))) => (fun (l620 : List (Int × Int)) => some (Ctl.next ((l620, wr (x498 + 1))))) s629 else some (Ctl.out l493))
noncomputable def m_impl_corners (l0 : List (Int × Int)) : Option ((List (Int × Int))) :=
  Option.bind (loopM (m_impl_corners_s1 l0) ((([] : List (Int × Int)), 0))) fun (r503 : (List (Int × Int))) => (fun (l484 : List (Int × Int)) => some l484) r503

def m_cmp_isNaN_int64 (p0 : Int) : Option ((Bool)) :=
  some (p0 != p0)

def m_cmp_Compare_int64 (p0 : Int) (p1 : Int) : Option ((Int)) :=
  Option.bind (m_cmp_isNaN_int64 p0) fun y1 => Option.bind (m_cmp_isNaN_int64 p1) fun y5 => (bif y1 then (bif y5 then some 0 else some ((-1))) else (bif y5 then some 1 else (bif decide (p0 < p1) then some ((-1)) else (bif decide (p0 > p1) then some 1 else some 0))))

def m_impl_side (p0 : Int) : Option ((Int)) :=
  Option.bind (m_cmp_Compare_int64 p0 0) fun y1 => some y1

noncomputable def m_impl_line_s1 (p1_0 : Int) (p1_1 : Int) (s179 : (List (Int × Int)) × Int × Int) : Option (Ctl ((List (Int × Int)) × Int × Int) ((List (Int × Int)))) :=
  match s179 with | (l162, x167, x168) => (bif !(x167 == p1_0 && x168 == p1_1) then Option.bind (m_impl_side (wr (p1_0 - x167))) fun y204 => Option.bind (m_impl_side (wr (p1_1 - x168))) fun y208 => Option.bind (apC l162 (([(wr (x167 + y204), wr (x168 + y208))] : List (Int × Int)))) fun _ => some (Ctl.next ((l162 ++ (([(wr (x167 + y204), wr (x168 + y208))] : List (Int × Int))), wr (x167 + y204), wr (x168 + y208)))) else some (Ctl.out l162))
noncomputable def m_impl_line (p0_0 : Int) (p0_1 : Int) (p1_0 : Int) (p1_1 : Int) : Option ((List (Int × Int))) :=
  Option.bind (loopM (m_impl_line_s1 p1_0 p1_1) ((([] : List (Int × Int)), p0_0, p0_1))) fun (r176 : (List (Int × Int))) => (fun (l153 : List (Int × Int)) => some l153) r176

noncomputable def m_impl_riverPath_1_bimplPoint_bimplPoint (p0_0 : Int) (p0_1 : Int) (l1_0 : List (Int × Int)) (q2_0 : Int) (q2_1 : Int) : Option ((Int) × (Int) × (List (Int × Int))) :=
  Option.bind (m_impl_line q2_0 q2_1 p0_0 p0_1) fun y54 => Option.bind (apC l1_0 y54) fun _ => some ((p0_0, p0_1, l1_0 ++ y54))

noncomputable def m_impl_riverPath_s1 (l0 : List (Int)) (l1 : List (Int)) (p2 : Int) (p3 : Int) (s811 : Int × Int × Int × (List (Int × Int))) : Option (Ctl (Int × Int × Int × (List (Int × Int))) (Int × Int × (List (Int × Int)))) :=
  match s811 with | (x791, x792, x793, l794) => (bif decide (x791 ≤ p2) then Option.bind (Option.bind (m_impl_riverPath_1_bimplPoint_bimplPoint x792 x791 l794 x792 x793) fun y1004 => Option.bind (geti l0 p3) fun x1019 => Option.bind (Option.bind (geti l0 p3) fun x1081 => Option.bind (geti l1 p3) fun x1083 => (bif decide (x1081 > x1083) then (bif decide ((wr (p3 + x791)) < (((l1).length : Int))) then Option.bind (geti l1 (wr (p3 + x791))) fun x1088 => some (if (wr (x1088 - x791)) < x1019 then (wr (x1088 - x791)) else x1019) else some x1019) else some x1019)) fun (s1059 : Int) => (fun (x1052 : Int) => Option.bind (Option.bind (geti l0 p3) fun x1149 => Option.bind (geti l1 p3) fun x1151 => (bif decide (x1149 < x1151) then (bif decide ((wr (p3 - x791)) ≥ 0) then Option.bind (geti l1 (wr (p3 - x791))) fun x1156 => some (if (wr (x1156 + x791)) > x1052 then (wr (x1156 + x791)) else x1052) else some x1052) else some x1052)) fun (s1128 : Int) => (fun (x1121 : Int) => Option.bind (m_impl_riverPath_1_bimplPoint_bimplPoint x1121 x791 y1004.2.2 y1004.1 y1004.2.1) fun y1159 => some ((y1159.1, y1159.2.1, y1159.2.2))) s1128) s1059) fun (s1002 : Int × Int × (List (Int × Int))) => match s1002 with | (x986, x987, l988) => some (Ctl.next ((wr (x791 + 1), x986, x987, l988))) else some (Ctl.out ((x792, x793, l794))))
noncomputable def m_impl_riverPath (l0 : List (Int)) (l1 : List (Int)) (p2 : Int) (p3 : Int) : Option ((List (Int × Int))) :=
  Option.bind (geti l1 p3) fun x3 => Option.bind (loopM (m_impl_riverPath_s1 l0 l1 p2 p3) ((1, x3, 0, ([(x3, 0)] : List (Int × Int))))) fun (r808 : Int × Int × (List (Int × Int))) => match r808 with | (x776, x777, l778) => Option.bind (m_impl_riverPath_1_bimplPoint_bimplPoint x776 (wr (p2 + 1)) l778 x776 x777) fun y1175 => some y1175.2.2

noncomputable def m_impl_RiverWire (l0 : List (Int)) (l1 : List (Int)) (p2 : Int) (p3 : Int) : Option ((List (Int × Int)) × (Bool)) :=
  Option.bind (m_impl_FitsRiver l0 l1 p2) fun y3 => (bif !y3 then some (([], false)) else Option.bind (m_impl_in p3 0 (wr ((((l0).length : Int)) - 1))) fun y8 => (bif !y8 then some (([], false)) else Option.bind (m_impl_riverPath l0 l1 p2 p3) fun y13 => Option.bind (m_impl_corners y13) fun y24 => some ((y24, true))))

def m_impl_IsPoint (p0_0 : Int) (p0_1 : Int) : Option ((Bool)) :=
  Option.bind (m_impl_in p0_0 0 99) fun y7 => (bif y7 then Option.bind (m_impl_in p0_1 0 99) fun y12 => some y12 else some false)

def m_impl_noPoint (p0_0 : Int) (p0_1 : Int) : Option ((Bool)) :=
  Option.bind (m_impl_IsPoint p0_0 p0_1) fun y7 => some (!y7)

def m_slices_Clone_impl_Point_impl_Point (l0 : List (Int × Int)) : Option ((List (Int × Int))) :=
  Option.bind (apC (([] : List (Int × Int))) l0) fun _ => some ((([] : List (Int × Int))) ++ l0)

def m_cmp_Or_int_s1 (l0 : List (Int)) (s24 : Int) : Option (Ctl (Int) (Sum (Unit) ((Int)))) :=
  (fun (x18 : Int) => (bif decide (x18 < (((l0).length : Int))) then Option.bind (geti l0 x18) fun x28 => (bif x28 != 0 then some (Ctl.out (Sum.inr x28)) else some (Ctl.next (wr (x18 + 1)))) else some (Ctl.out (Sum.inl (()))))) s24
noncomputable def m_cmp_Or_int (l0 : List (Int)) : Option ((Int)) :=
  Option.bind (loopM (m_cmp_Or_int_s1 l0) 0) fun (r21 : Sum (Unit) ((Int))) => match r21 with | Sum.inl q33 => (some 0) | Sum.inr v32 => some v32

noncomputable def m_impl_pointOrder (p0_0 : Int) (p0_1 : Int) (p1_0 : Int) (p1_1 : Int) : Option ((Int)) :=
  Option.bind (m_cmp_Compare_int64 p0_0 p1_0) fun y42 => Option.bind (m_cmp_Compare_int64 p0_1 p1_1) fun y46 => Option.bind (m_cmp_Or_int (([y42, y46] : List (Int)))) fun y58 => some y58

def m_slices_Compact_impl_Point_impl_Point_s4 (l0 : List (Int × Int)) (x542 : Int) (s731 : Int × Int × (List (Int × Int))) : Option (Ctl (Int × Int × (List (Int × Int))) (Int × (List (Int × Int)))) :=
  match s731 with | (x721, x722, l723) => (bif decide (x722 < (((slc l723 x542 (((l0).length : Int))).length : Int))) then Option.bind (Option.bind (geti (slc l723 x542 (((l0).length : Int))) x722) fun x783 => Option.bind (geti (slc l723 x542 (((l0).length : Int))) (wr (x722 - 1))) fun x785 => (bif !(x783.1 == x785.1 && x783.2 == x785.2) then Option.bind (geti (slc l723 x542 (((l0).length : Int))) x722) fun x788 => Option.bind (geti l723 x721) fun x790 => some ((wr (x721 + 1), l723.set (Int.toNat x721) ((x788.1, x788.2)))) else some ((x721, l723)))) fun (s769 : Int × (List (Int × Int))) => match s769 with | (x763, l764) => some (Ctl.next ((x763, wr (x722 + 1), l764))) else some (Ctl.out ((x721, l723))))
noncomputable def m_slices_Compact_impl_Point_impl_Point_s3 (l0 : List (Int × Int)) (s548 : Int) : Option (Ctl (Int) (Sum (Unit) ((List (Int × Int))))) :=
  (fun (x542 : Int) => (bif decide (x542 < (((l0).length : Int))) then Option.bind (geti l0 x542) fun x562 => Option.bind (geti l0 (wr (x542 - 1))) fun x564 => (bif x562.1 == x564.1 && x562.2 == x564.2 then Option.bind (slci l0 x542 (((l0).length : Int))) fun _ => Option.bind (loopM (m_slices_Compact_impl_Point_impl_Point_s4 l0 x542) ((x542, 1, l0))) fun (r728 : Int × (List (Int × Int))) => match r728 with | (x715, l716) => Option.bind (slci l716 x715 (((l716).length : Int))) fun _ => Option.bind (slci (clr ((0, 0) : Int × Int) l716 x715) 0 x715) fun _ => some (Ctl.out (Sum.inr ((clr ((0, 0) : Int × Int) l716 x715).take (Int.toNat x715)))) else some (Ctl.next (wr (x542 + 1)))) else some (Ctl.out (Sum.inl (()))))) s548
noncomputable def m_slices_Compact_impl_Point_impl_Point (l0 : List (Int × Int)) : Option ((List (Int × Int))) :=
  (bif decide ((((l0).length : Int)) < 2) then some l0 else Option.bind (loopM (m_slices_Compact_impl_Point_impl_Point_s3 l0) 1) fun (r545 : Sum (Unit) ((List (Int × Int)))) => match r545 with | Sum.inl q818 => (some l0) | Sum.inr v817 => some v817)

noncomputable def m_impl_sorted (l0 : List (Int × Int)) : Option ((List (Int × Int))) :=
  Option.bind (m_slices_Clone_impl_Point_impl_Point l0) fun y2 => Option.bind (m_slices_SortFunc_impl_Point_impl_Point_impl_pointOrder y2) fun y13 => Option.bind (m_slices_Compact_impl_Point_impl_Point y13) fun y19 => some y19

def m_impl_size (p0 : Int) : Option ((Int)) :=
  some (if (wr (0 - p0)) > p0 then (wr (0 - p0)) else p0)

def m_impl_far (p0_0 : Int) (p0_1 : Int) (p1_0 : Int) (p1_1 : Int) : Option ((Int)) :=
  Option.bind (m_impl_size (wr (p0_0 - p1_0))) fun y30 => Option.bind (m_impl_size (wr (p0_1 - p1_1))) fun y34 => some (wr (y30 + y34))

def m_slices_IndexFunc_impl_Point_impl_Point_impl_noPoint_s1 (l0 : List (Int × Int)) (s32 : Int) : Option (Ctl (Int) (Sum (Unit) ((Int)))) :=
  (fun (x26 : Int) => (bif decide (x26 < (((l0).length : Int))) then Option.bind (geti l0 x26) fun x36 => Option.bind (m_impl_noPoint x36.1 x36.2) fun y38 => (bif y38 then some (Ctl.out (Sum.inr x26)) else some (Ctl.next (wr (x26 + 1)))) else some (Ctl.out (Sum.inl (()))))) s32
noncomputable def m_slices_IndexFunc_impl_Point_impl_Point_impl_noPoint (l0 : List (Int × Int)) : Option ((Int)) :=
  Option.bind (loopM (m_slices_IndexFunc_impl_Point_impl_Point_impl_noPoint_s1 l0) 0) fun (r29 : Sum (Unit) ((Int))) => match r29 with | Sum.inl q45 => (some ((-1))) | Sum.inr v44 => some v44

noncomputable def m_slices_ContainsFunc_impl_Point_impl_Point_impl_noPoint (l0 : List (Int × Int)) : Option ((Bool)) :=
  Option.bind (m_slices_IndexFunc_impl_Point_impl_Point_impl_noPoint l0) fun y2 => some (decide (y2 ≥ 0))

noncomputable def m_impl_IsPath_s1 (l0 : List (Int × Int)) (s72 : Int) : Option (Ctl (Int) (Sum (Unit) ((Bool)))) :=
  (fun (x66 : Int) => (bif decide (x66 < (((l0).length : Int))) then Option.bind (geti l0 (wr (x66 - 1))) fun x90 => Option.bind (geti l0 x66) fun x92 => Option.bind (m_impl_far x90.1 x90.2 x92.1 x92.2) fun y94 => (bif y94 != 1 then some (Ctl.out (Sum.inr false)) else some (Ctl.next (wr (x66 + 1)))) else some (Ctl.out (Sum.inl (()))))) s72
noncomputable def m_impl_IsPath (l0 : List (Int × Int)) : Option ((Bool)) :=
  (bif decide ((((l0).length : Int)) < 1) then some false else (bif decide ((((l0).length : Int)) > 576) then some false else Option.bind (m_slices_ContainsFunc_impl_Point_impl_Point_impl_noPoint l0) fun y4 => (bif y4 then some false else Option.bind (loopM (m_impl_IsPath_s1 l0) 1) fun (r69 : Sum (Unit) ((Bool))) => match r69 with | Sum.inl q112 => (Option.bind (m_impl_sorted l0) fun y100 => some ((((y100).length : Int)) == (((l0).length : Int)))) | Sum.inr v111 => some v111)))

def m_slices_Equal_impl_Point_impl_Point_s1 (l0 : List (Int × Int)) (l1 : List (Int × Int)) (s57 : Int) : Option (Ctl (Int) (Sum (Unit) ((Bool)))) :=
  (fun (x50 : Int) => (bif decide (x50 < (((l0).length : Int))) then Option.bind (geti l0 x50) fun x73 => Option.bind (geti l1 x50) fun x75 => (bif !(x73.1 == x75.1 && x73.2 == x75.2) then some (Ctl.out (Sum.inr false)) else some (Ctl.next (wr (x50 + 1)))) else some (Ctl.out (Sum.inl (()))))) s57
noncomputable def m_slices_Equal_impl_Point_impl_Point (l0 : List (Int × Int)) (l1 : List (Int × Int)) : Option ((Bool)) :=
  (bif (((l0).length : Int)) != (((l1).length : Int)) then some false else Option.bind (loopM (m_slices_Equal_impl_Point_impl_Point_s1 l0 l1) 0) fun (r54 : Sum (Unit) ((Bool))) => match r54 with | Sum.inl q80 => (some true) | Sum.inr v79 => some v79)

noncomputable def m_impl_through_s1 (l0 : List (Int × Int)) (s548 : (List (Int × Int)) × Int) : Option (Ctl ((List (Int × Int)) × Int) (Sum ((List (Int × Int))) ((List (Int × Int)) × (Bool)))) :=
  match s548 with | (l535, x540) => (bif decide (x540 < (((l0).length : Int))) then Option.bind (Option.bind (geti l0 (wr (x540 - 1))) fun x685 => Option.bind (geti l0 x540) fun x687 => some ((x685.1, x685.2, x687.1, x687.2))) fun (s679 : Int × Int × Int × Int) => match s679 with | (x662, x663, x666, x667) => (bif x662 == x666 && x663 == x667 then some (Ctl.out (Sum.inr (([], false)))) else (bif x662 != x666 then (bif x663 != x667 then some (Ctl.out (Sum.inr (([], false)))) else (bif decide ((((l535).length : Int)) > 576) then some (Ctl.out (Sum.inr (([], false)))) else Option.bind (m_impl_line x662 x663 x666 x667) fun y742 => Option.bind (neC y742) fun _ => Option.bind (apC l535 y742) fun _ => some (Ctl.next ((l535 ++ y742, wr (x540 + 1)))))) else (bif decide ((((l535).length : Int)) > 576) then some (Ctl.out (Sum.inr (([], false)))) else Option.bind (m_impl_line x662 x663 x666 x667) fun y772 => Option.bind (neC y772) fun _ => Option.bind (apC l535 y772) fun _ => some (Ctl.next ((l535 ++ y772, wr (x540 + 1))))))) else some (Ctl.out (Sum.inl l535)))
noncomputable def m_impl_through (l0 : List (Int × Int)) : Option ((List (Int × Int)) × (Bool)) :=
  (bif (((l0).length : Int)) == 0 then some (([], false)) else (bif decide ((((l0).length : Int)) > 576) then some (([], false)) else Option.bind (m_slices_ContainsFunc_impl_Point_impl_Point_impl_noPoint l0) fun y4 => (bif y4 then some (([], false)) else Option.bind (slci l0 0 1) fun y9 => Option.bind (loopM (m_impl_through_s1 l0) ((y9, 1))) fun (r545 : Sum ((List (Int × Int))) ((List (Int × Int)) × (Bool))) => match r545 with | Sum.inl q823 => ((fun (l525 : List (Int × Int)) => Option.bind (m_impl_IsPath l525) fun y801 => (bif y801 then Option.bind (m_impl_corners l525) fun y806 => Option.bind (m_slices_Equal_impl_Point_impl_Point y806 l0) fun y818 => some ((l525, y818)) else some ((l525, false)))) q823) | Sum.inr v822 => some v822)))

noncomputable def m_impl_PathThrough (l0 : List (Int × Int)) : Option ((List (Int × Int)) × (Bool)) :=
  Option.bind (m_impl_through l0) fun y2 => (bif !y2.2 then some (([], false)) else Option.bind (m_slices_Clone_impl_Point_impl_Point y2.1) fun y14 => some ((y14, true)))

def m_impl_RiverLength_1 (l0 : List (Int × Int)) : Option ((Int)) :=
  some (wr ((((l0).length : Int)) - 1))

noncomputable def m_impl_riverSum_impl_RiverLength_1_s1 (l0 : List (Int)) (l1 : List (Int)) (p2 : Int) (s60 : Int × Int) : Option (Ctl (Int × Int) (Int)) :=
  match s60 with | (x52, x53) => (bif decide (x53 < (((l0).length : Int))) then Option.bind (m_impl_riverPath l0 l1 p2 x53) fun y64 => Option.bind (m_impl_RiverLength_1 y64) fun y75 => some (Ctl.next ((wr (x52 + y75), wr (x53 + 1)))) else some (Ctl.out x52))
noncomputable def m_impl_riverSum_impl_RiverLength_1 (l0 : List (Int)) (l1 : List (Int)) (p2 : Int) : Option ((Int) × (Bool)) :=
  Option.bind (m_impl_FitsRiver l0 l1 p2) fun y3 => (bif !y3 then some ((0, false)) else Option.bind (loopM (m_impl_riverSum_impl_RiverLength_1_s1 l0 l1 p2) ((0, 0))) fun (r57 : Int) => (fun (x49 : Int) => some ((x49, true))) r57)

noncomputable def m_impl_RiverLength (l0 : List (Int)) (l1 : List (Int)) (p2 : Int) : Option ((Int) × (Bool)) :=
  Option.bind (m_impl_riverSum_impl_RiverLength_1 l0 l1 p2) fun y3 => some ((y3.1, y3.2))

noncomputable def m_impl_RiverBends_1 (l0 : List (Int × Int)) : Option ((Int)) :=
  Option.bind (m_impl_corners l0) fun y2 => some (wr ((((y2).length : Int)) - 2))

noncomputable def m_impl_riverSum_impl_RiverBends_1_s1 (l0 : List (Int)) (l1 : List (Int)) (p2 : Int) (s60 : Int × Int) : Option (Ctl (Int × Int) (Int)) :=
  match s60 with | (x52, x53) => (bif decide (x53 < (((l0).length : Int))) then Option.bind (m_impl_riverPath l0 l1 p2 x53) fun y64 => Option.bind (m_impl_RiverBends_1 y64) fun y75 => some (Ctl.next ((wr (x52 + y75), wr (x53 + 1)))) else some (Ctl.out x52))
noncomputable def m_impl_riverSum_impl_RiverBends_1 (l0 : List (Int)) (l1 : List (Int)) (p2 : Int) : Option ((Int) × (Bool)) :=
  Option.bind (m_impl_FitsRiver l0 l1 p2) fun y3 => (bif !y3 then some ((0, false)) else Option.bind (loopM (m_impl_riverSum_impl_RiverBends_1_s1 l0 l1 p2) ((0, 0))) fun (r57 : Int) => (fun (x49 : Int) => some ((x49, true))) r57)

noncomputable def m_impl_RiverBends (l0 : List (Int)) (l1 : List (Int)) (p2 : Int) : Option ((Int) × (Bool)) :=
  Option.bind (m_impl_riverSum_impl_RiverBends_1 l0 l1 p2) fun y3 => some ((y3.1, y3.2))

noncomputable def m_impl_AreApart_s1 (l0 : List (List (Int × Int))) (s111 : (List (Int × Int)) × Int) : Option (Ctl ((List (Int × Int)) × Int) (Sum ((List (Int × Int))) ((Bool)))) :=
  match s111 with | (l98, x103) => (bif decide (x103 < (((l0).length : Int))) then Option.bind (geti l0 x103) fun x115 => Option.bind (m_impl_through x115) fun y123 => (bif !y123.2 then some (Ctl.out (Sum.inr false)) else Option.bind (apC l98 y123.1) fun _ => some (Ctl.next ((l98 ++ y123.1, wr (x103 + 1))))) else some (Ctl.out (Sum.inl l98)))
noncomputable def m_impl_AreApart (l0 : List (List (Int × Int))) : Option ((Bool)) :=
  (bif decide ((((l0).length : Int)) > 20) then some false else Option.bind (loopM (m_impl_AreApart_s1 l0) ((([] : List (Int × Int)), 0))) fun (r108 : Sum ((List (Int × Int))) ((Bool))) => match r108 with | Sum.inl q174 => ((fun (l89 : List (Int × Int)) => Option.bind (m_slices_Clone_impl_Point_impl_Point l89) fun y148 => Option.bind (m_impl_sorted y148) fun y160 => some ((((y160).length : Int)) == (((l89).length : Int)))) q174) | Sum.inr v173 => some v173)

noncomputable def m_laws_FnRivers_s4 (y35 : (Int) × (Bool)) (y64 : (Int)) (y655 : (List (Int × Int)) × (Bool)) (s821 : Int) : Option (Ctl (Int) (Sum (Unit) ((Bool)))) :=
  (fun (x811 : Int) => (bif decide (x811 < (((y655.1).length : Int))) then Option.bind (geti y655.1 x811) fun x849 => Option.bind (geti y655.1 (wr (x811 - 1))) fun x851 => (bif x849.1 != x851.1 then Option.bind (geti y655.1 x811) fun x854 => (bif decide (x854.2 < 1) then some (Ctl.out (Sum.inr false)) else Option.bind (geti y655.1 x811) fun x858 => (bif decide (x858.2 > (wr (y35.1 + y64))) then some (Ctl.out (Sum.inr false)) else some (Ctl.next (wr (x811 + 1))))) else some (Ctl.next (wr (x811 + 1)))) else some (Ctl.out (Sum.inl (()))))) s821
noncomputable def m_laws_FnRivers_s3 (y8 : (Int)) (y12 : (List (Int))) (y23 : (List (Int))) (y35 : (Int) × (Bool)) (y64 : (Int)) (s637 : (List (List (Int × Int))) × Int × Int × Int) : Option (Ctl ((List (List (Int × Int))) × Int × Int × Int) (Sum ((List (List (Int × Int))) × Int × Int) ((Bool)))) :=
  match s637 with | (l618, x624, x625, x626) => (bif decide (x626 < (wr (1 + y8))) then Option.bind (m_impl_RiverWire y12 y23 (wr (y35.1 + y64)) x626) fun y641 => Option.bind (m_impl_PathThrough y641.1) fun y655 => (bif !y641.2 then some (Ctl.out (Sum.inr false)) else (bif !y655.2 then some (Ctl.out (Sum.inr false)) else Option.bind (geti y655.1 0) fun x700 => Option.bind (geti y23 x626) fun x702 => (bif !(x700.1 == x702 && x700.2 == 0) then some (Ctl.out (Sum.inr false)) else Option.bind (geti y655.1 (wr ((((y655.1).length : Int)) - 1))) fun x706 => Option.bind (geti y12 x626) fun x708 => (bif !(x706.1 == x708 && x706.2 == (wr ((wr (y35.1 + y64)) + 1))) then some (Ctl.out (Sum.inr false)) else Option.bind (loopM (m_laws_FnRivers_s4 y35 y64 y655) 1) fun (r818 : Sum (Unit) ((Bool))) => match r818 with | Sum.inl q889 => (Option.bind (apC l618 (([y641.1] : List (List (Int × Int))))) fun _ => some (Ctl.next ((l618 ++ (([y641.1] : List (List (Int × Int)))), wr (x624 + (wr ((((y655.1).length : Int)) - 1))), wr (x625 + (wr ((((y641.1).length : Int)) - 2))), wr (x626 + 1))))) | Sum.inr v888 => some (Ctl.out (Sum.inr v888)))))) else some (Ctl.out (Sum.inl ((l618, x624, x625)))))
noncomputable def m_laws_FnRivers (l0 : List (Int)) (l1 : List (Int)) : Option ((Bool)) :=
  Option.bind (m_laws_r8Long l0 l1) fun y3 => (bif y3 then some true else Option.bind (m_laws_r8At l0 40 7) fun y8 => Option.bind (m_spec_R8Row l0 (wr (1 + y8))) fun y12 => Option.bind (m_spec_R8Row l1 (wr (1 + y8))) fun y23 => Option.bind (m_impl_LeastTracks y12 y23) fun y35 => (bif !y35.2 then some false else (bif decide (y35.1 < 0) then some false else (bif decide (y35.1 > (wr (1 + y8))) then some false else Option.bind (m_impl_ValidRiver y12 y23) fun y46 => (bif !y46 then some false else Option.bind (m_impl_FitsRiver y12 y23 y35.1) fun y52 => (bif !y52 then some false else Option.bind (m_impl_FitsRiver y12 y23 (wr (y35.1 - 1))) fun y58 => (bif y58 then some false else Option.bind (m_laws_r8At l0 41 3) fun y64 => Option.bind (m_impl_FitsRiver y12 y23 (wr (y35.1 + y64))) fun y68 => (bif !y68 then some false else Option.bind (loopM (m_laws_FnRivers_s3 y8 y12 y23 y35 y64) ((([] : List (List (Int × Int))), 0, 0, 0))) fun (r634 : Sum ((List (List (Int × Int))) × Int × Int) ((Bool))) => match r634 with | Sum.inl q914 => (match q914 with | (l602, x608, x609) => Option.bind (m_impl_RiverLength y12 y23 (wr (y35.1 + y64))) fun y891 => Option.bind (m_impl_RiverBends y12 y23 (wr (y35.1 + y64))) fun y895 => (bif y891.2 then (bif y895.2 then (bif y891.1 == x608 then (bif y895.1 == x609 then Option.bind (m_impl_AreApart l602) fun y904 => some y904 else some false) else some false) else some false) else some false)) | Sum.inr v913 => some v913))))))))

def m_spec_l00Src_one_bspecl00Src (l0_0 : List (Int)) (q0_1 : Int) (q0_2 : Int) (p1 : Int) : Option ((Bool) × (Int) × (Int)) :=
  Option.bind (m_spec_l00Src_pick_bspecl00Src l0_0 q0_1 q0_2 p1) fun y3 => some ((y3.1 == 0, y3.2.1, y3.2.2))

noncomputable def m_spec_R8Maze_s4 (l0 : List (Int)) (y37 : (Int) × (Int) × (Int)) (y47 : (Bool) × (Int) × (Int)) (x1390 : Int) (s1855 : (List (Int)) × Int × Int × Int) : Option (Ctl ((List (Int)) × Int × Int × Int) ((List (Int)) × Int × Int)) :=
  match s1855 with | (l1832, x1837, x1838, x1839) => (bif decide (x1837 < (wr (1 + y37.1))) then Option.bind (Option.bind ((bif !y47.1 then Option.bind (m_spec_l00Src_pick_bspecl00Src l0 x1838 x1839 9) fun y1979 => some ((wr (1 + y1979.1), y1979.2.1, y1979.2.2)) else some ((1, x1838, x1839)))) fun (s1976 : Int × Int × Int) => match s1976 with | (x1966, x1967, x1968) => Option.bind (Option.bind (m_spec_l00Src_one_bspecl00Src l0 x1967 x1968 4) fun y2004 => (bif y2004.1 then (bif decide ((wr (x1837 + x1390)) > 0) then some ((0, y2004.2.1, y2004.2.2)) else some ((x1966, y2004.2.1, y2004.2.2))) else some ((x1966, y2004.2.1, y2004.2.2)))) fun (s2002 : Int × Int × Int) => match s2002 with | (x1992, x1993, x1994) => Option.bind (apC l1832 (([x1992] : List (Int)))) fun _ => some ((l1832 ++ (([x1992] : List (Int))), x1993, x1994))) fun (s1957 : (List (Int)) × Int × Int) => match s1957 with | (l1938, x1943, x1944) => some (Ctl.next ((l1938, wr (x1837 + 1), x1943, x1944))) else some (Ctl.out ((l1832, x1838, x1839))))
noncomputable def m_spec_R8Maze_s3 (l0 : List (Int)) (y37 : (Int) × (Int) × (Int)) (y42 : (Int) × (Int) × (Int)) (y47 : (Bool) × (Int) × (Int)) (s1412 : Int × Int × Int × (List (List (Int)))) : Option (Ctl (Int × Int × Int × (List (List (Int)))) ((List (List (Int))))) :=
  match s1412 with | (x1390, x1391, x1392, l1393) => (bif decide (x1390 < (wr (1 + y42.1))) then Option.bind (loopM (m_spec_R8Maze_s4 l0 y37 y47 x1390) ((([] : List (Int)), 0, x1391, x1392))) fun (r1852 : (List (Int)) × Int × Int) => match r1852 with | (l1812, x1817, x1818) => Option.bind (apC l1393 (([l1812] : List (List (Int))))) fun _ => some (Ctl.next ((wr (x1390 + 1), x1817, x1818, l1393 ++ (([l1812] : List (List (Int))))))) else some (Ctl.out l1393))
noncomputable def m_spec_R8Maze (l0 : List (Int)) : Option (((List (List (Int))))) :=
  Option.bind (m_spec_l00From l0) fun y8 => Option.bind (m_spec_l00Src_pick_bspecl00Src l0 y8.1 y8.2 5) fun y37 => Option.bind (m_spec_l00Src_pick_bspecl00Src l0 y37.2.1 y37.2.2 5) fun y42 => Option.bind (m_spec_l00Src_one_bspecl00Src l0 y42.2.1 y42.2.2 2) fun y47 => Option.bind (loopM (m_spec_R8Maze_s3 l0 y37 y42 y47) ((0, y47.2.1, y47.2.2, ([] : List (List (Int)))))) fun (r1409 : (List (List (Int)))) => (fun (l1376 : List (List (Int))) => some ((l1376))) r1409

def m_spec_l00In (p0 : Int) (p1 : Int) (p2 : Int) : Option ((Bool)) :=
  (bif decide (p0 ≥ p1) then some (decide (p0 ≤ p2)) else some false)

def m_spec_l04Open_bimplMaze (l0_0 : List (List (Int))) (p1_0 : Int) (p1_1 : Int) : Option ((Bool)) :=
  Option.bind (m_spec_l00In p1_1 0 (wr ((((l0_0).length : Int)) - 1))) fun y49 => (bif y49 then Option.bind (geti l0_0 0) fun x54 => Option.bind (m_spec_l00In p1_0 0 (wr ((((x54).length : Int)) - 1))) fun y63 => (bif y63 then Option.bind (geti l0_0 p1_1) fun x68 => Option.bind (geti x68 p1_0) fun x77 => some (decide (x77 > 0)) else some false) else some false)

noncomputable def m_spec_R8Open_s1 (l0 : List (Int)) (l1_0 : List (List (Int))) (s143 : Int × Int × Int) : Option (Ctl (Int × Int × Int) (Sum (Unit) ((Int × Int)))) :=
  match s143 with | (x131, x132, x133) => (bif decide (x131 < 8) then Option.bind (geti l1_0 0) fun x147 => Option.bind (m_spec_l00Src_pick_bspecl00Src l0 x132 x133 (((x147).length : Int))) fun y155 => Option.bind (m_spec_l00Src_pick_bspecl00Src l0 y155.2.1 y155.2.2 (((l1_0).length : Int))) fun y172 => Option.bind (m_spec_l04Open_bimplMaze l1_0 y155.1 y172.1) fun y180 => (bif y180 then some (Ctl.out (Sum.inr ((y155.1, y172.1)))) else some (Ctl.next ((wr (x131 + 1), y172.2.1, y172.2.2)))) else some (Ctl.out (Sum.inl (()))))
noncomputable def m_spec_R8Open (l0 : List (Int)) (l1_0 : List (List (Int))) : Option ((Int × Int)) :=
  Option.bind (m_spec_l00From l0) fun y16 => Option.bind (loopM (m_spec_R8Open_s1 l0 l1_0) ((0, y16.1, y16.2))) fun (r140 : Sum (Unit) ((Int × Int))) => match r140 with | Sum.inl q194 => (some ((0, 0))) | Sum.inr v193 => some v193

def m_impl_ValidMaze_1 (p0 : Int) : Option ((Bool)) :=
  Option.bind (m_impl_in p0 0 9) fun y1 => some (!y1)

def m_slices_IndexFunc_int64_int64_impl_ValidMaze_1_s1 (l0 : List (Int)) (s32 : Int) : Option (Ctl (Int) (Sum (Unit) ((Int)))) :=
  (fun (x26 : Int) => (bif decide (x26 < (((l0).length : Int))) then Option.bind (geti l0 x26) fun x36 => Option.bind (m_impl_ValidMaze_1 x36) fun y38 => (bif y38 then some (Ctl.out (Sum.inr x26)) else some (Ctl.next (wr (x26 + 1)))) else some (Ctl.out (Sum.inl (()))))) s32
noncomputable def m_slices_IndexFunc_int64_int64_impl_ValidMaze_1 (l0 : List (Int)) : Option ((Int)) :=
  Option.bind (loopM (m_slices_IndexFunc_int64_int64_impl_ValidMaze_1_s1 l0) 0) fun (r29 : Sum (Unit) ((Int))) => match r29 with | Sum.inl q45 => (some ((-1))) | Sum.inr v44 => some v44

noncomputable def m_slices_ContainsFunc_int64_int64_impl_ValidMaze_1 (l0 : List (Int)) : Option ((Bool)) :=
  Option.bind (m_slices_IndexFunc_int64_int64_impl_ValidMaze_1 l0) fun y2 => some (decide (y2 ≥ 0))

noncomputable def m_impl_ValidMaze_s1 (l0_0 : List (List (Int))) (s89 : Int) : Option (Ctl (Int) (Sum (Unit) ((Bool)))) :=
  (fun (x82 : Int) => (bif decide (x82 < (((l0_0).length : Int))) then Option.bind (geti l0_0 x82) fun x93 => Option.bind (geti l0_0 0) fun x101 => (bif (((x93).length : Int)) != (((x101).length : Int)) then some (Ctl.out (Sum.inr false)) else Option.bind (m_slices_ContainsFunc_int64_int64_impl_ValidMaze_1 x93) fun y110 => (bif y110 then some (Ctl.out (Sum.inr false)) else some (Ctl.next (wr (x82 + 1))))) else some (Ctl.out (Sum.inl (()))))) s89
noncomputable def m_impl_ValidMaze (l0_0 : List (List (Int))) : Option ((Bool)) :=
  Option.bind (m_impl_in (((l0_0).length : Int)) 1 12) fun y8 => (bif !y8 then some false else Option.bind (geti l0_0 0) fun x13 => Option.bind (m_impl_in (((x13).length : Int)) 1 12) fun y21 => (bif !y21 then some false else Option.bind (loopM (m_impl_ValidMaze_s1 l0_0) 0) fun (r86 : Sum (Unit) ((Bool))) => match r86 with | Sum.inl q117 => (some true) | Sum.inr v116 => some v116))

def m_impl_Maze_has_bimplMaze (l0_0 : List (List (Int))) (p1_0 : Int) (p1_1 : Int) : Option ((Bool)) :=
  Option.bind (m_impl_in p1_1 0 (wr ((((l0_0).length : Int)) - 1))) fun y37 => (bif y37 then Option.bind (geti l0_0 0) fun x42 => Option.bind (m_impl_in p1_0 0 (wr ((((x42).length : Int)) - 1))) fun y51 => some y51 else some false)

def m_impl_Maze_price_bimplMaze (l0_0 : List (List (Int))) (p1_0 : Int) (p1_1 : Int) : Option ((Int)) :=
  Option.bind (geti l0_0 p1_1) fun x29 => Option.bind (geti x29 p1_0) fun x37 => some x37

def m_impl_Maze_open_bimplMaze (l0_0 : List (List (Int))) (p1_0 : Int) (p1_1 : Int) : Option ((Bool)) :=
  Option.bind (m_impl_Maze_has_bimplMaze l0_0 p1_0 p1_1) fun y9 => (bif y9 then Option.bind (m_impl_Maze_price_bimplMaze l0_0 p1_0 p1_1) fun y14 => some (y14 != 0) else some false)

noncomputable def m_impl_IsOpen (l0_0 : List (List (Int))) (p1_0 : Int) (p1_1 : Int) : Option ((Bool)) :=
  Option.bind (m_impl_ValidMaze l0_0) fun y15 => (bif y15 then Option.bind (m_impl_Maze_open_bimplMaze l0_0 p1_0 p1_1) fun y20 => some y20 else some false)

noncomputable def m_impl_blockOk (l0_0 : List (List (Int))) (p1_0 : Int) (p1_1 : Int) (p2_0 : Int) (p2_1 : Int) : Option ((Bool)) :=
  Option.bind (m_impl_IsOpen l0_0 p1_0 p1_1) fun y23 => (bif y23 then Option.bind (m_impl_Maze_open_bimplMaze l0_0 p2_0 p2_1) fun y28 => (bif y28 then Option.bind (m_impl_far p1_0 p1_1 p2_0 p2_1) fun y33 => some (decide (y33 > 1)) else some false) else some false)

def m_impl_next (p0_0 : Int) (p0_1 : Int) (p1 : Int) : Option ((Int × Int)) :=
  (bif p1 == 0 then some ((p0_0, wr (p0_1 - 1))) else (bif p1 == 1 then some ((wr (p0_0 - 1), p0_1)) else (bif p1 == 2 then some ((wr (p0_0 + 1), p0_1)) else some ((p0_0, wr (p0_1 + 1))))))

def m_impl_DistanceOf (p0_0 : Int) (p0_1 : Int) (p1_0 : Int) (p1_1 : Int) : Option ((Int) × (Bool)) :=
  Option.bind (m_impl_IsPoint p0_0 p0_1) fun y14 => (bif !y14 then some ((0, false)) else Option.bind (m_impl_IsPoint p1_0 p1_1) fun y19 => (bif !y19 then some ((0, false)) else Option.bind (m_impl_far p0_0 p0_1 p1_0 p1_1) fun y24 => some ((y24, true))))

noncomputable def m_impl_mazeOk (l0_0 : List (List (Int))) (p1_0 : Int) (p1_1 : Int) (p2_0 : Int) (p2_1 : Int) (p3 : Int) : Option ((Bool)) :=
  Option.bind (m_impl_IsOpen l0_0 p1_0 p1_1) fun y23 => (bif y23 then Option.bind (m_impl_Maze_open_bimplMaze l0_0 p2_0 p2_1) fun y28 => (bif y28 then Option.bind (m_impl_in p3 0 1000000000) fun y33 => some y33 else some false) else some false)

def m_laws_szPointS (l0 : List (Int × Int)) (p1 : Int) : Option ((Int)) :=
  (bif decide ((wr (p1 - (((l0).length : Int)))) < 0) then some ((-1)) else some (wr (p1 - (((l0).length : Int)))))

def m_spec_l01Index_s1 (l0 : List (Int × Int)) (p1_0 : Int) (p1_1 : Int) (s53 : Int) : Option (Ctl (Int) (Sum (Unit) ((Int)))) :=
  (fun (x46 : Int) => (bif decide (x46 < (((l0).length : Int))) then Option.bind (geti l0 x46) fun x67 => (bif x67.1 == p1_0 && x67.2 == p1_1 then some (Ctl.out (Sum.inr x46)) else some (Ctl.next (wr (x46 + 1)))) else some (Ctl.out (Sum.inl (()))))) s53
noncomputable def m_spec_l01Index (l0 : List (Int × Int)) (p1_0 : Int) (p1_1 : Int) : Option ((Int)) :=
  Option.bind (loopM (m_spec_l01Index_s1 l0 p1_0 p1_1) 0) fun (r50 : Sum (Unit) ((Int))) => match r50 with | Sum.inl q72 => (some ((-1))) | Sum.inr v71 => some v71

def m_spec_l01Point (p0_0 : Int) (p0_1 : Int) : Option ((Bool)) :=
  Option.bind (m_spec_l00In p0_0 0 99) fun y7 => (bif y7 then Option.bind (m_spec_l00In p0_1 0 99) fun y12 => some y12 else some false)

noncomputable def m_spec_l05Is_s1 (l0 : List (Int × Int)) (s126 : Int) : Option (Ctl (Int) (Sum (Unit) ((Bool)))) :=
  (fun (x120 : Int) => (bif decide (x120 < (((l0).length : Int))) then Option.bind (geti l0 x120) fun x158 => Option.bind (m_spec_l01Point x158.1 x158.2) fun y160 => (bif !y160 then some (Ctl.out (Sum.inr false)) else Option.bind (slci l0 0 x120) fun y166 => Option.bind (geti l0 x120) fun x175 => Option.bind (m_spec_l01Index y166 x175.1 x175.2) fun y177 => (bif decide (y177 ≥ 0) then some (Ctl.out (Sum.inr false)) else some (Ctl.next (wr (x120 + 1))))) else some (Ctl.out (Sum.inl (()))))) s126
noncomputable def m_spec_l05Is (l0 : List (Int × Int)) : Option ((Bool)) :=
  (bif decide ((((l0).length : Int)) < 1) then some false else (bif decide ((((l0).length : Int)) > 20) then some false else Option.bind (loopM (m_spec_l05Is_s1 l0) 0) fun (r123 : Sum (Unit) ((Bool))) => match r123 with | Sum.inl q185 => (some true) | Sum.inr v184 => some v184))

noncomputable def m_spec_l05Few (l0 : List (Int × Int)) : Option ((Bool)) :=
  Option.bind (m_spec_l05Is l0) fun y2 => (bif y2 then some (decide ((((l0).length : Int)) ≤ 7)) else some false)

def m_spec_l00Max (p0 : Int) (p1 : Int) : Option ((Int)) :=
  (bif decide (p0 > p1) then some p0 else some p1)

def m_spec_l01Abs (p0 : Int) : Option ((Int)) :=
  Option.bind (m_spec_l00Max p0 (wr (0 - p0))) fun y1 => some y1

def m_spec_l01Far (p0_0 : Int) (p0_1 : Int) (p1_0 : Int) (p1_1 : Int) : Option ((Int)) :=
  Option.bind (m_spec_l01Abs (wr (p0_0 - p1_0))) fun y30 => Option.bind (m_spec_l01Abs (wr (p0_1 - p1_1))) fun y34 => some (wr (y30 + y34))

noncomputable def m_spec_l05Tree_s13 (l0 : List (Int × Int)) (l3600 : List (Bool)) (x4778 : Int) (s5180 : (List (Int)) × Int × Int) : Option (Ctl ((List (Int)) × Int × Int) ((List (Int)) × Int)) :=
  match s5180 with | (l5162, x5167, x5168) => (bif decide (x5168 < (((l0).length : Int))) then Option.bind (Option.bind (geti l0 x4778) fun x5295 => Option.bind (geti l0 x5168) fun x5297 => Option.bind (m_spec_l01Far x5295.1 x5295.2 x5297.1 x5297.2) fun y5299 => Option.bind (geti l3600 x4778) fun x5321 => Option.bind (geti l3600 x5168) fun x5323 => (bif !(x5321 == x5323) then (bif decide (x5167 < 0) then some ((([x4778, x5168] : List (Int)), y5299)) else (bif decide (y5299 < x5167) then some ((([x4778, x5168] : List (Int)), y5299)) else some ((l5162, x5167)))) else some ((l5162, x5167)))) fun (s5273 : (List (Int)) × Int) => match s5273 with | (l5259, x5264) => some (Ctl.next ((l5259, x5264, wr (x5168 + 1)))) else some (Ctl.out ((l5162, x5167))))
noncomputable def m_spec_l05Tree_s12 (l0 : List (Int × Int)) (l3600 : List (Bool)) (s4790 : (List (Int)) × Int × Int) : Option (Ctl ((List (Int)) × Int × Int) ((List (Int)) × Int)) :=
  match s4790 with | (l4772, x4777, x4778) => (bif decide (x4778 < (((l0).length : Int))) then Option.bind (loopM (m_spec_l05Tree_s13 l0 l3600 x4778) ((l4772, x4777, wr (x4778 + 1)))) fun (r5177 : (List (Int)) × Int) => match r5177 with | (l5147, x5152) => some (Ctl.next ((l5147, x5152, wr (x4778 + 1)))) else some (Ctl.out ((l4772, x4777))))
noncomputable def m_spec_l05Tree_s9 (l0 : List (Int × Int)) (s3610 : (List (List (Int))) × Int × (List (Bool))) : Option (Ctl ((List (List (Int))) × Int × (List (Bool))) ((List (List (Int))) × Int)) :=
  match s3610 with | (l3593, x3599, l3600) => (bif decide ((((l3593).length : Int)) < (wr ((((l0).length : Int)) - 1))) then Option.bind (loopM (m_spec_l05Tree_s12 l0 l3600) ((([] : List (Int)), (-1), 0))) fun (r4787 : (List (Int)) × Int) => match r4787 with | (l4757, x4762) => Option.bind (geti l4757 0) fun x5351 => Option.bind (geti l3600 x5351) fun x5353 => Option.bind (geti l4757 1) fun x5358 => Option.bind (geti (l3600.set (Int.toNat x5351) true) x5358) fun x5360 => Option.bind (apC l3593 (([l4757] : List (List (Int))))) fun _ => some (Ctl.next ((l3593 ++ (([l4757] : List (List (Int)))), wr (x3599 + x4762), (l3600.set (Int.toNat x5351) true).set (Int.toNat x5358) true))) else some (Ctl.out ((l3593, x3599))))
noncomputable def m_spec_l05Tree (l0 : List (Int × Int)) : Option ((List (List (Int))) × (Int)) :=
  Option.bind (mkC (((l0).length : Int))) fun _ => Option.bind (geti (List.replicate (Int.toNat (((l0).length : Int))) ((false : Bool))) 0) fun x9 => Option.bind (loopM (m_spec_l05Tree_s9 l0) ((([] : List (List (Int))), 0, (List.replicate (Int.toNat (((l0).length : Int))) ((false : Bool))).set (Int.toNat 0) true))) fun (r3607 : (List (List (Int))) × Int) => match r3607 with | (l3582, x3588) => some ((l3582, x3588))

def m_spec_l03Less_s1 (l0 : List (Int)) (l1 : List (Int)) (s94 : Int) : Option (Ctl (Int) (Sum (Unit) ((Bool)))) :=
  (fun (x87 : Int) => (bif decide (x87 < (((l0).length : Int))) then (bif decide (x87 < (((l1).length : Int))) then Option.bind (geti l0 x87) fun x111 => Option.bind (geti l1 x87) fun x113 => (bif x111 != x113 then Option.bind (geti l0 x87) fun x128 => Option.bind (geti l1 x87) fun x130 => some (Ctl.out (Sum.inr (decide (x128 < x130)))) else some (Ctl.next (wr (x87 + 1)))) else some (Ctl.out (Sum.inl (())))) else some (Ctl.out (Sum.inl (()))))) s94
noncomputable def m_spec_l03Less (l0 : List (Int)) (l1 : List (Int)) : Option ((Bool)) :=
  Option.bind (loopM (m_spec_l03Less_s1 l0 l1) 0) fun (r91 : Sum (Unit) ((Bool))) => match r91 with | Sum.inl q136 => (some (decide ((((l0).length : Int)) < (((l1).length : Int))))) | Sum.inr v135 => some v135

noncomputable def m_spec_l05Pairs_ids_s4 (rw : Nat → List Int) (l0 : List (Nat)) (l517 : List (Nat)) (x522 : Int) (s617 : Int) : Option (Ctl (Int) (Int)) :=
  (fun (x609 : Int) => (bif decide (x609 < (((l517).length : Int))) then Option.bind (geti l517 x609) fun x640 => Option.bind (geti l0 x522) fun x642 => Option.bind (m_spec_l03Less (rw x640) (rw x642)) fun y644 => (bif y644 then some (Ctl.next (wr (x609 + 1))) else some (Ctl.out x609)) else some (Ctl.out x609))) s617
noncomputable def m_spec_l05Pairs_ids_s3 (rw : Nat → List Int) (l0 : List (Nat)) (s531 : (List (Nat)) × Int) : Option (Ctl ((List (Nat)) × Int) ((List (Nat)))) :=
  match s531 with | (l517, x522) => (bif decide (x522 < (((l0).length : Int))) then Option.bind (loopM (m_spec_l05Pairs_ids_s4 rw l0 l517 x522) 0) fun (r614 : Int) => (fun (x603 : Int) => Option.bind (slci l517 x603 (((l517).length : Int))) fun _ => Option.bind (apC (([] : List (Nat))) (slc l517 x603 (((l517).length : Int)))) fun _ => Option.bind (slci l517 0 x603) fun _ => Option.bind (geti l0 x522) fun x739 => Option.bind (apC (l517.take (Int.toNat x603)) (([x739] : List (Nat)))) fun _ => Option.bind (apC ((l517.take (Int.toNat x603)) ++ (([x739] : List (Nat)))) ((([] : List (Nat))) ++ (slc l517 x603 (((l517).length : Int))))) fun _ => some (Ctl.next ((((l517.take (Int.toNat x603)) ++ (([x739] : List (Nat)))) ++ ((([] : List (Nat))) ++ (slc l517 x603 (((l517).length : Int)))), wr (x522 + 1))))) r614 else some (Ctl.out l517))
noncomputable def m_spec_l05Pairs_ids (rw : Nat → List Int) (l0 : List (Nat)) : Option ((List (Nat))) :=
  Option.bind (loopM (m_spec_l05Pairs_ids_s3 rw l0) ((([] : List (Nat)), 0))) fun (r528 : (List (Nat))) => (fun (l507 : List (Nat)) => some l507) r528

noncomputable def m_spec_l05Pairs (l0 : List (List (Int))) : Option (List (List (Int))) :=
  Option.bind (m_spec_l05Pairs_ids (fun i => l0.getD i []) (List.range l0.length)) fun r => Option.bind (chk (decide (r.Perm (List.range l0.length)))) fun _ => some (r.map fun i => l0.getD i [])

def m_spec_l01Sign (p0 : Int) : Option ((Int)) :=
  (bif decide (p0 < 0) then some ((-1)) else (bif decide (p0 > 0) then some 1 else some 0))

noncomputable def m_spec_l05Steps_s4 (p1_0 : Int) (p1_1 : Int) (x39 : Int) (x40 : Int) (x1780 : Int) (s2372 : (List (Int × Int)) × Int × Int) : Option (Ctl ((List (Int × Int)) × Int × Int) ((List (Int × Int)) × Int × Int)) :=
  match s2372 with | (l2355, x2360, x2361) => Option.bind (geti (([(x39, x40), (p1_0, p1_1)] : List (Int × Int))) x1780) fun x2387 => (bif !(x2360 == x2387.1 && x2361 == x2387.2) then Option.bind (Option.bind (geti (([(x39, x40), (p1_0, p1_1)] : List (Int × Int))) x1780) fun x2547 => Option.bind (geti (([(x39, x40), (p1_0, p1_1)] : List (Int × Int))) x1780) fun x2549 => Option.bind (m_spec_l01Sign (wr (x2547.1 - x2360))) fun y2551 => Option.bind (m_spec_l01Sign (wr (x2549.2 - x2361))) fun y2555 => some ((wr (x2360 + y2551), wr (x2361 + y2555)))) fun (s2540 : Int × Int) => match s2540 with | (x2528, x2529) => Option.bind (apC l2355 (([(wr (x2360 + x2528), wr (x2361 + x2529))] : List (Int × Int)))) fun _ => some (Ctl.next ((l2355 ++ (([(wr (x2360 + x2528), wr (x2361 + x2529))] : List (Int × Int))), x2528, x2529))) else some (Ctl.out ((l2355, x2360, x2361))))
noncomputable def m_spec_l05Steps_s3 (p1_0 : Int) (p1_1 : Int) (x39 : Int) (x40 : Int) (s1793 : (List (Int × Int)) × Int × Int × Int) : Option (Ctl ((List (Int × Int)) × Int × Int × Int) ((List (Int × Int)))) :=
  match s1793 with | (l1775, x1780, x1781, x1782) => (bif decide (x1780 < 2) then Option.bind (loopM (m_spec_l05Steps_s4 p1_0 p1_1 x39 x40 x1780) ((l1775, x1781, x1782))) fun (r2369 : (List (Int × Int)) × Int × Int) => match r2369 with | (l2340, x2345, x2346) => some (Ctl.next ((l2340, wr (x1780 + 1), x2345, x2346))) else some (Ctl.out l1775))
noncomputable def m_spec_l05Steps (p0_0 : Int) (p0_1 : Int) (p1_0 : Int) (p1_1 : Int) (p2 : Bool) : Option ((List (Int × Int))) :=
  Option.bind ((bif p2 then some ((p1_0, p0_1)) else some ((p0_0, p1_1)))) fun (s46 : Int × Int) => match s46 with | (x39, x40) => Option.bind (loopM (m_spec_l05Steps_s3 p1_0 p1_1 x39 x40) ((([] : List (Int × Int)), 0, p0_0, p0_1))) fun (r1790 : (List (Int × Int))) => (fun (l1766 : List (Int × Int)) => some l1766) r1790

noncomputable def m_spec_l05Used_s2 (l241 : List (Int × Int)) (s524 : Int × Int × (List (Bool))) : Option (Ctl (Int × Int × (List (Bool))) (Int)) :=
  match s524 with | (x515, x516, l517) => (bif decide (x516 < (((l241).length : Int))) then Option.bind (Option.bind (geti l241 x516) fun x573 => Option.bind (geti l241 x516) fun x575 => Option.bind (geti l517 (wr ((wr ((wr (x573.1 * 2)) * 100)) + x575.2))) fun x577 => (bif !x577 then Option.bind (geti l517 (wr ((wr ((wr (x573.1 * 2)) * 100)) + x575.2))) fun x581 => some ((wr (x515 + 1), l517.set (Int.toNat (wr ((wr ((wr (x573.1 * 2)) * 100)) + x575.2))) true)) else some ((x515, l517)))) fun (s559 : Int × (List (Bool))) => match s559 with | (x554, l555) => some (Ctl.next ((x554, wr (x516 + 1), l555))) else some (Ctl.out x515))
noncomputable def m_spec_l05Used_s1 (l0 : List (Int × Int)) (l1 : List (List (Int))) (p2 : Int) (s264 : (List (Int × Int)) × Int) : Option (Ctl ((List (Int × Int)) × Int) ((List (Int × Int)))) :=
  match s264 with | (l250, x255) => (bif decide (x255 < (((l1).length : Int))) then Option.bind (p0C (wu (wr ((wr ((((l1).length : Int)) - 1)) - x255)))) fun u268 => Option.bind (geti l1 x255) fun x327 => Option.bind (geti x327 0) fun x335 => Option.bind (geti l0 x335) fun x337 => Option.bind (geti l1 x255) fun x339 => Option.bind (geti x339 1) fun x347 => Option.bind (geti l0 x347) fun x349 => Option.bind (m_spec_l05Steps x337.1 x337.2 x349.1 x349.2 ((andI (shrI p2 (wu (wr ((wr ((((l1).length : Int)) - 1)) - x255)))) 1) == 0)) fun y351 => Option.bind (apC l250 y351) fun _ => some (Ctl.next ((l250 ++ y351, wr (x255 + 1)))) else some (Ctl.out l250))
noncomputable def m_spec_l05Used (l0 : List (Int × Int)) (l1 : List (List (Int))) (p2 : Int) : Option ((Int)) :=
  Option.bind (loopM (m_spec_l05Used_s1 l0 l1 p2) ((([] : List (Int × Int)), 0))) fun (r261 : (List (Int × Int))) => (fun (l241 : List (Int × Int)) => Option.bind (mkC 40000) fun _ => Option.bind (loopM (m_spec_l05Used_s2 l241) ((0, 0, List.replicate (Int.toNat 40000) ((false : Bool))))) fun (r521 : Int) => (fun (x512 : Int) => some x512) r521) r261

def m_laws_toPoint (p0_0 : Int) (p0_1 : Int) : Option ((Int × Int)) :=
  some ((p0_0, p0_1))

def m_laws_toPointS_s1 (l0 : List (Int × Int)) (s54 : Int × (List (Int × Int))) : Option (Ctl (Int × (List (Int × Int))) ((List (Int × Int)))) :=
  match s54 with | (x46, l47) => (bif decide (x46 < (((l0).length : Int))) then Option.bind (geti l0 x46) fun x58 => Option.bind (m_laws_toPoint x58.1 x58.2) fun y60 => Option.bind (geti l47 x46) fun x64 => some (Ctl.next ((wr (x46 + 1), l47.set (Int.toNat x46) ((y60.1, y60.2))))) else some (Ctl.out l47))
noncomputable def m_laws_toPointS (l0 : List (Int × Int)) : Option ((List (Int × Int))) :=
  Option.bind (mkC (((l0).length : Int))) fun _ => Option.bind (loopM (m_laws_toPointS_s1 l0) ((0, List.replicate (Int.toNat (((l0).length : Int))) (((0, 0) : Int × Int))))) fun (r51 : (List (Int × Int))) => (fun (l42 : List (Int × Int)) => some l42) r51

noncomputable def m_impl_pinsOk (l0 : List (Int × Int)) (p1 : Int) : Option ((Bool)) :=
  (bif decide ((((l0).length : Int)) ≥ 1) then (bif decide ((((l0).length : Int)) ≤ p1) then Option.bind (m_slices_ContainsFunc_impl_Point_impl_Point_impl_noPoint l0) fun y4 => (bif !y4 then Option.bind (m_impl_sorted l0) fun y9 => some ((((y9).length : Int)) == (((l0).length : Int))) else some false) else some false) else some false)

def m_slices_Compare_int64_int64_s1 (l0 : List (Int)) (l1 : List (Int)) (s46 : Int) : Option (Ctl (Int) (Sum (Unit) ((Int)))) :=
  (fun (x39 : Int) => (bif decide (x39 < (((l0).length : Int))) then Option.bind (geti l0 x39) fun x50 => (bif decide (x39 ≥ (((l1).length : Int))) then some (Ctl.out (Sum.inr 1)) else Option.bind (geti l1 x39) fun x53 => Option.bind (m_cmp_Compare_int64 x50 x53) fun y55 => (bif y55 != 0 then some (Ctl.out (Sum.inr y55)) else some (Ctl.next (wr (x39 + 1))))) else some (Ctl.out (Sum.inl (()))))) s46
noncomputable def m_slices_Compare_int64_int64 (l0 : List (Int)) (l1 : List (Int)) : Option ((Int)) :=
  Option.bind (loopM (m_slices_Compare_int64_int64_s1 l0 l1) 0) fun (r43 : Sum (Unit) ((Int))) => match r43 with | Sum.inl q64 => ((bif decide ((((l0).length : Int)) < (((l1).length : Int))) then some ((-1)) else some 0)) | Sum.inr v63 => some v63

def m_impl_spanning_s13 (l0 : List (Int × Int)) (l2782 : List (Bool)) (x3641 : Int) (s3934 : Int × Int × Int) : Option (Ctl (Int × Int × Int) (Int × Int)) :=
  match s3934 with | (x3924, x3925, x3926) => (bif decide (x3926 < (((l0).length : Int))) then Option.bind (Option.bind (geti l2782 x3641) fun x4037 => Option.bind (geti l2782 x3926) fun x4039 => (bif !(x4037 == x4039) then (bif decide (x3924 < 0) then some ((x3641, x3926)) else Option.bind (geti l0 x3641) fun x4044 => Option.bind (geti l0 x3926) fun x4046 => Option.bind (geti l0 x3924) fun x4048 => Option.bind (geti l0 x3925) fun x4050 => Option.bind (m_impl_far x4044.1 x4044.2 x4046.1 x4046.2) fun y4052 => Option.bind (m_impl_far x4048.1 x4048.2 x4050.1 x4050.2) fun y4056 => (bif decide (y4052 < y4056) then some ((x3641, x3926)) else some ((x3924, x3925)))) else some ((x3924, x3925)))) fun (s4003 : Int × Int) => match s4003 with | (x3997, x3998) => some (Ctl.next ((x3997, x3998, wr (x3926 + 1)))) else some (Ctl.out ((x3924, x3925))))
noncomputable def m_impl_spanning_s12 (l0 : List (Int × Int)) (l2782 : List (Bool)) (s3649 : Int × Int × Int) : Option (Ctl (Int × Int × Int) (Int × Int)) :=
  match s3649 with | (x3639, x3640, x3641) => (bif decide (x3641 < (((l0).length : Int))) then Option.bind (loopM (m_impl_spanning_s13 l0 l2782 x3641) ((x3639, x3640, wr (x3641 + 1)))) fun (r3931 : Int × Int) => match r3931 with | (x3917, x3918) => some (Ctl.next ((x3917, x3918, wr (x3641 + 1)))) else some (Ctl.out ((x3639, x3640))))
noncomputable def m_impl_spanning_s9 (l0 : List (Int × Int)) (s2792 : (List (List (Int))) × Int × (List (Bool))) : Option (Ctl ((List (List (Int))) × Int × (List (Bool))) ((List (List (Int))) × Int)) :=
  match s2792 with | (l2775, x2781, l2782) => (bif decide ((wr ((((l2775).length : Int)) + 1)) < (((l0).length : Int))) then Option.bind (loopM (m_impl_spanning_s12 l0 l2782) (((-1), (-1), 0))) fun (r3646 : Int × Int) => match r3646 with | (x3632, x3633) => Option.bind (geti l2782 x3632) fun x4065 => Option.bind (geti (l2782.set (Int.toNat x3632) true) x3633) fun x4070 => Option.bind (geti l0 x3632) fun x4121 => Option.bind (geti l0 x3633) fun x4123 => Option.bind (apC l2775 (([([x3632, x3633] : List (Int))] : List (List (Int))))) fun _ => Option.bind (m_impl_far x4121.1 x4121.2 x4123.1 x4123.2) fun y4153 => some (Ctl.next ((l2775 ++ (([([x3632, x3633] : List (Int))] : List (List (Int)))), wr (x2781 + y4153), (l2782.set (Int.toNat x3632) true).set (Int.toNat x3633) true))) else some (Ctl.out ((l2775, x2781))))
noncomputable def m_impl_spanning (l0 : List (Int × Int)) : Option ((List (List (Int))) × (Int)) :=
  Option.bind (mkC (((l0).length : Int))) fun _ => Option.bind (geti (List.replicate (Int.toNat (((l0).length : Int))) ((false : Bool))) 0) fun x16 => Option.bind (loopM (m_impl_spanning_s9 l0) ((([] : List (List (Int))), 0, (List.replicate (Int.toNat (((l0).length : Int))) ((false : Bool))).set (Int.toNat 0) true))) fun (r2789 : (List (List (Int))) × Int) => match r2789 with | (l2764, x2770) => Option.bind (m_slices_SortFunc_int64_int64_slices_Compare_int64_int64 l2764) fun y4158 => some ((y4158, x2770))

def m_laws_eqPoint (p0_0 : Int) (p0_1 : Int) (p1_0 : Int) (p1_1 : Int) : Option ((Bool)) :=
  (bif p0_0 != p1_0 then some false else (bif p0_1 != p1_1 then some false else some true))

def m_laws_eqPointS_s1 (l0 : List (Int × Int)) (l1 : List (Int × Int)) (s73 : Int) : Option (Ctl (Int) (Sum (Unit) ((Bool)))) :=
  (fun (x66 : Int) => (bif decide (x66 < (((l0).length : Int))) then Option.bind (geti l0 x66) fun x93 => Option.bind (geti l1 x66) fun x95 => Option.bind (m_laws_eqPoint x93.1 x93.2 x95.1 x95.2) fun y97 => (bif !y97 then some (Ctl.out (Sum.inr false)) else some (Ctl.next (wr (x66 + 1)))) else some (Ctl.out (Sum.inl (()))))) s73
noncomputable def m_laws_eqPointS (l0 : List (Int × Int)) (l1 : List (Int × Int)) : Option ((Bool)) :=
  (bif (((l0).length : Int)) != (((l1).length : Int)) then some false else Option.bind (loopM (m_laws_eqPointS_s1 l0 l1) 0) fun (r70 : Sum (Unit) ((Bool))) => match r70 with | Sum.inl q104 => (some true) | Sum.inr v103 => some v103)

def m_laws_szInt64S (l0 : List (Int)) (p1 : Int) : Option ((Int)) :=
  (bif decide ((wr (p1 - (((l0).length : Int)))) < 0) then some ((-1)) else some (wr (p1 - (((l0).length : Int)))))

noncomputable def m_laws_szInt64SS_s1 (l0 : List (List (Int))) (s48 : Int × Int) : Option (Ctl (Int × Int) (Sum (Int) ((Int)))) :=
  match s48 with | (x41, x42) => (bif decide (x42 < (((l0).length : Int))) then Option.bind (geti l0 x42) fun x52 => Option.bind (m_laws_szInt64S x52 x41) fun y60 => (bif decide (y60 < 0) then some (Ctl.out (Sum.inr ((-1)))) else some (Ctl.next ((y60, wr (x42 + 1))))) else some (Ctl.out (Sum.inl x41)))
noncomputable def m_laws_szInt64SS (l0 : List (List (Int))) (p1 : Int) : Option ((Int)) :=
  (bif decide ((wr (p1 - (((l0).length : Int)))) < 0) then some ((-1)) else Option.bind (loopM (m_laws_szInt64SS_s1 l0) ((wr (p1 - (((l0).length : Int))), 0))) fun (r45 : Sum (Int) ((Int))) => match r45 with | Sum.inl q67 => ((fun (x38 : Int) => some x38) q67) | Sum.inr v66 => some v66)

noncomputable def m_laws_szMaze (l0_0 : List (List (Int))) (p1 : Int) : Option ((Int)) :=
  Option.bind (m_laws_szInt64SS l0_0 p1) fun y8 => (bif decide (y8 < 0) then some ((-1)) else some y8)

def m_spec_l04Step (p0_0 : Int) (p0_1 : Int) (p1 : Int) : Option ((Int × Int)) :=
  (bif p1 == 0 then some ((p0_0, wr (p0_1 - 1))) else (bif p1 == 1 then some ((wr (p0_0 - 1), p0_1)) else (bif p1 == 2 then some ((wr (p0_0 + 1), p0_1)) else some ((p0_0, wr (p0_1 + 1))))))

def m_spec_l04Search_s5 (l0 : List (List (Int))) (x885 : Int) (s1159 : (List (Int)) × Int × (List (Int))) : Option (Ctl ((List (Int)) × Int × (List (Int))) ((List (Int)) × (List (Int)))) :=
  match s1159 with | (l1143, x1148, l1149) => (bif decide (x1148 < (((l0).length : Int))) then Option.bind (Option.bind (geti l1143 x885) fun x1223 => Option.bind (geti l0 x1223) fun x1225 => Option.bind (geti x1225 x1148) fun x1233 => (bif decide (x1233 > 0) then Option.bind (geti l1149 x1148) fun x1236 => (bif decide (x1236 < 0) then Option.bind (geti l1143 x885) fun x1240 => Option.bind (geti l1149 x1148) fun x1242 => Option.bind (apC l1143 (([x1148] : List (Int)))) fun _ => some ((l1143 ++ (([x1148] : List (Int))), l1149.set (Int.toNat x1148) x1240)) else some ((l1143, l1149))) else some ((l1143, l1149)))) fun (s1221 : (List (Int)) × (List (Int))) => match s1221 with | (l1209, l1214) => some (Ctl.next ((l1209, wr (x1148 + 1), l1214))) else some (Ctl.out ((l1143, l1149))))
noncomputable def m_spec_l04Search_s4 (l0 : List (List (Int))) (s896 : (List (Int)) × Int × (List (Int))) : Option (Ctl ((List (Int)) × Int × (List (Int))) ((List (Int)))) :=
  match s896 with | (l880, x885, l886) => (bif decide (x885 < (((l880).length : Int))) then Option.bind (loopM (m_spec_l04Search_s5 l0 x885) ((l880, 0, l886))) fun (r1156 : (List (Int)) × (List (Int))) => match r1156 with | (l1130, l1135) => some (Ctl.next ((l1130, wr (x885 + 1), l1135))) else some (Ctl.out l886))
def m_spec_l04Search_s1 (l0 : List (List (Int))) (s83 : (List (Int)) × Int) : Option (Ctl ((List (Int)) × Int) ((List (Int)))) :=
  match s83 with | (l70, x75) => (bif decide (x75 < (((l0).length : Int))) then Option.bind (apC l70 (([(-1)] : List (Int)))) fun _ => some (Ctl.next ((l70 ++ (([(-1)] : List (Int))), wr (x75 + 1)))) else some (Ctl.out l70))
noncomputable def m_spec_l04Search (l0 : List (List (Int))) (p1 : Int) : Option ((List (Int))) :=
  Option.bind (loopM (m_spec_l04Search_s1 l0) ((([] : List (Int)), 0))) fun (r80 : (List (Int))) => (fun (l60 : List (Int)) => Option.bind (geti l60 p1) fun x106 => Option.bind (loopM (m_spec_l04Search_s4 l0) ((([p1] : List (Int)), 0, l60.set (Int.toNat p1) p1))) fun (r893 : (List (Int))) => (fun (l876 : List (Int)) => some l876) r893) r80

noncomputable def m_spec_l04Is_bimplMaze_s4 (l0_0 : List (List (Int))) (x317 : Int) (s439 : Int) : Option (Ctl (Int) (Sum (Unit) ((Bool)))) :=
  (fun (x432 : Int) => Option.bind (geti l0_0 x317) fun x442 => (bif decide (x432 < (((x442).length : Int))) then Option.bind (geti l0_0 x317) fun x451 => Option.bind (geti x451 x432) fun x459 => Option.bind (m_spec_l00In x459 0 9) fun y461 => (bif !y461 then some (Ctl.out (Sum.inr false)) else some (Ctl.next (wr (x432 + 1)))) else some (Ctl.out (Sum.inl (()))))) s439
noncomputable def m_spec_l04Is_bimplMaze_s3 (l0_0 : List (List (Int))) (s324 : Int) : Option (Ctl (Int) (Sum (Unit) ((Bool)))) :=
  (fun (x317 : Int) => (bif decide (x317 < (((l0_0).length : Int))) then Option.bind (geti l0_0 x317) fun x352 => Option.bind (geti l0_0 0) fun x360 => (bif (((x352).length : Int)) != (((x360).length : Int)) then some (Ctl.out (Sum.inr false)) else Option.bind (loopM (m_spec_l04Is_bimplMaze_s4 l0_0 x317) 0) fun (r436 : Sum (Unit) ((Bool))) => match r436 with | Sum.inl q469 => (some (Ctl.next (wr (x317 + 1)))) | Sum.inr v468 => some (Ctl.out (Sum.inr v468))) else some (Ctl.out (Sum.inl (()))))) s324
noncomputable def m_spec_l04Is_bimplMaze (l0_0 : List (List (Int))) : Option ((Bool)) :=
  Option.bind (m_spec_l00In (((l0_0).length : Int)) 1 12) fun y3 => (bif !y3 then some false else Option.bind (geti l0_0 0) fun x8 => Option.bind (m_spec_l00In (((x8).length : Int)) 1 12) fun y16 => (bif !y16 then some false else Option.bind (loopM (m_spec_l04Is_bimplMaze_s3 l0_0) 0) fun (r321 : Sum (Unit) ((Bool))) => match r321 with | Sum.inl q472 => (some true) | Sum.inr v471 => some v471))

noncomputable def m_spec_l04At_bimplMaze (l0_0 : List (List (Int))) (p1_0 : Int) (p1_1 : Int) : Option ((Bool)) :=
  Option.bind (m_spec_l04Is_bimplMaze l0_0) fun y9 => (bif y9 then Option.bind (m_spec_l04Open_bimplMaze l0_0 p1_0 p1_1) fun y14 => some y14 else some false)

noncomputable def m_spec_l04Both_bimplMaze (l0_0 : List (List (Int))) (p1_0 : Int) (p1_1 : Int) (p2_0 : Int) (p2_1 : Int) : Option ((Bool)) :=
  Option.bind (m_spec_l04At_bimplMaze l0_0 p1_0 p1_1) fun y16 => (bif y16 then Option.bind (m_spec_l04Open_bimplMaze l0_0 p2_0 p2_1) fun y21 => (bif y21 then Option.bind (m_spec_l01Far p1_0 p1_1 p2_0 p2_1) fun y26 => some (decide (y26 > 1)) else some false) else some false)

def m_laws_toInt64S_s1 (l0 : List (Int)) (s46 : Int × (List (Int))) : Option (Ctl (Int × (List (Int))) ((List (Int)))) :=
  match s46 with | (x38, l39) => (bif decide (x38 < (((l0).length : Int))) then Option.bind (geti l0 x38) fun x50 => Option.bind (geti l39 x38) fun x52 => some (Ctl.next ((wr (x38 + 1), l39.set (Int.toNat x38) x50))) else some (Ctl.out l39))
noncomputable def m_laws_toInt64S (l0 : List (Int)) : Option ((List (Int))) :=
  Option.bind (mkC (((l0).length : Int))) fun _ => Option.bind (loopM (m_laws_toInt64S_s1 l0) ((0, List.replicate (Int.toNat (((l0).length : Int))) ((0 : Int))))) fun (r43 : (List (Int))) => (fun (l34 : List (Int)) => some l34) r43

noncomputable def m_laws_toInt64SS_s1 (l0 : List (List (Int))) (s112 : (List (List (Int))) × Int) : Option (Ctl ((List (List (Int))) × Int) ((List (List (Int))))) :=
  match s112 with | (l98, x104) => (bif decide (x104 < (((l0).length : Int))) then Option.bind (geti l0 x104) fun x116 => Option.bind (m_laws_toInt64S x116) fun y124 => Option.bind (geti l98 x104) fun x136 => some (Ctl.next ((l98.set (Int.toNat x104) y124, wr (x104 + 1)))) else some (Ctl.out l98))
noncomputable def m_laws_toInt64SS (l0 : List (List (Int))) : Option ((List (List (Int)))) :=
  Option.bind (mkC (((l0).length : Int))) fun _ => Option.bind (loopM (m_laws_toInt64SS_s1 l0) ((List.replicate (Int.toNat (((l0).length : Int))) ([] : List (Int)), 0))) fun (r109 : (List (List (Int)))) => (fun (l88 : List (List (Int))) => some l88) r109

noncomputable def m_laws_toMaze (l0_0 : List (List (Int))) : Option (((List (List (Int))))) :=
  Option.bind (m_laws_toInt64SS l0_0) fun y23 => some ((y23))

def m_laws_eqInt64S_s1 (l0 : List (Int)) (l1 : List (Int)) (s57 : Int) : Option (Ctl (Int) (Sum (Unit) ((Bool)))) :=
  (fun (x50 : Int) => (bif decide (x50 < (((l0).length : Int))) then Option.bind (geti l0 x50) fun x73 => Option.bind (geti l1 x50) fun x75 => (bif x73 != x75 then some (Ctl.out (Sum.inr false)) else some (Ctl.next (wr (x50 + 1)))) else some (Ctl.out (Sum.inl (()))))) s57
noncomputable def m_laws_eqInt64S (l0 : List (Int)) (l1 : List (Int)) : Option ((Bool)) :=
  (bif (((l0).length : Int)) != (((l1).length : Int)) then some false else Option.bind (loopM (m_laws_eqInt64S_s1 l0 l1) 0) fun (r54 : Sum (Unit) ((Bool))) => match r54 with | Sum.inl q80 => (some true) | Sum.inr v79 => some v79)

noncomputable def m_laws_eqInt64SS_s1 (l0 : List (List (Int))) (l1 : List (List (Int))) (s121 : Int) : Option (Ctl (Int) (Sum (Unit) ((Bool)))) :=
  (fun (x114 : Int) => (bif decide (x114 < (((l0).length : Int))) then Option.bind (geti l0 x114) fun x153 => Option.bind (geti l1 x114) fun x161 => Option.bind (m_laws_eqInt64S x153 x161) fun y169 => (bif !y169 then some (Ctl.out (Sum.inr false)) else some (Ctl.next (wr (x114 + 1)))) else some (Ctl.out (Sum.inl (()))))) s121
noncomputable def m_laws_eqInt64SS (l0 : List (List (Int))) (l1 : List (List (Int))) : Option ((Bool)) :=
  (bif (((l0).length : Int)) != (((l1).length : Int)) then some false else Option.bind (loopM (m_laws_eqInt64SS_s1 l0 l1) 0) fun (r118 : Sum (Unit) ((Bool))) => match r118 with | Sum.inl q176 => (some true) | Sum.inr v175 => some v175)

noncomputable def m_laws_eqMaze (l0_0 : List (List (Int))) (l1_0 : List (List (Int))) : Option ((Bool)) :=
  Option.bind (m_laws_eqInt64SS l0_0 l1_0) fun y16 => (bif !y16 then some false else some true)

def m_laws_b10Long (l0 : List (Int)) (l1 : List (Int)) : Option ((Bool)) :=
  (bif decide ((((l0).length : Int)) > 1048576) then some true else some (decide ((((l1).length : Int)) > 1048576)))

noncomputable def m_spec_l05DrawOk_bspecl00Src_s1 (l0_0 : List (Int)) (s285 : (List (Int × Int)) × Int × Int × Int) : Option (Ctl ((List (Int × Int)) × Int × Int × Int) ((List (Int × Int)) × Int × Int)) :=
  match s285 with | (l269, x274, x275, x276) => (bif decide (x274 > 0) then Option.bind (Option.bind (m_spec_l00Src_pick_bspecl00Src l0_0 x275 x276 9) fun y352 => Option.bind (m_spec_l00Src_pick_bspecl00Src l0_0 y352.2.1 y352.2.2 9) fun y367 => Option.bind (m_spec_l01Index l269 y352.1 y367.1) fun y375 => (bif decide (y375 < 0) then Option.bind (apC l269 (([(y352.1, y367.1)] : List (Int × Int)))) fun _ => some ((l269 ++ (([(y352.1, y367.1)] : List (Int × Int))), y367.2.1, y367.2.2)) else some ((l269, y367.2.1, y367.2.2)))) fun (s350 : (List (Int × Int)) × Int × Int) => match s350 with | (l338, x343, x344) => some (Ctl.next ((l338, wr (x274 - 1), x343, x344))) else some (Ctl.out ((l269, x275, x276))))
noncomputable def m_spec_l05DrawOk_bspecl00Src (l0_0 : List (Int)) (q0_1 : Int) (q0_2 : Int) (p1 : Int) : Option ((List (Int × Int)) × (Int) × (Int)) :=
  Option.bind (m_spec_l00Src_pick_bspecl00Src l0_0 q0_1 q0_2 p1) fun y9 => Option.bind (loopM (m_spec_l05DrawOk_bspecl00Src_s1 l0_0) ((([] : List (Int × Int)), wr (1 + y9.1), y9.2.1, y9.2.2))) fun (r282 : (List (Int × Int)) × Int × Int) => match r282 with | (l256, x261, x262) => some ((l256, x261, x262))

noncomputable def m_spec_B10Pins (l0 : List (Int)) (p1 : Int) : Option ((List (Int × Int))) :=
  Option.bind (m_spec_l00From l0) fun y2 => Option.bind (m_spec_l05DrawOk_bspecl00Src l0 y2.1 y2.2 p1) fun y10 => some y10.1

def m_impl_hanan_s4 (l0 : List (Int × Int)) (x382 : Int × Int) (s508 : (List (Int × Int)) × Int) : Option (Ctl ((List (Int × Int)) × Int) ((List (Int × Int)))) :=
  match s508 with | (l493, x498) => (bif decide (x498 < (((l0).length : Int))) then Option.bind (geti l0 x498) fun x512 => Option.bind (apC l493 (([(x382.1, x512.2)] : List (Int × Int)))) fun _ => some (Ctl.next ((l493 ++ (([(x382.1, x512.2)] : List (Int × Int))), wr (x498 + 1)))) else some (Ctl.out l493))
noncomputable def m_impl_hanan_s3 (l0 : List (Int × Int)) (s378 : (List (Int × Int)) × Int) : Option (Ctl ((List (Int × Int)) × Int) ((List (Int × Int)))) :=
  match s378 with | (l365, x370) => (bif decide (x370 < (((l0).length : Int))) then Option.bind (geti l0 x370) fun x382 => Option.bind (loopM (m_impl_hanan_s4 l0 x382) ((l365, 0))) fun (r505 : (List (Int × Int))) => (fun (l483 : List (Int × Int)) => some (Ctl.next ((l483, wr (x370 + 1))))) r505 else some (Ctl.out l365))
noncomputable def m_impl_hanan (l0 : List (Int × Int)) : Option ((List (Int × Int))) :=
  Option.bind (loopM (m_impl_hanan_s3 l0) ((([] : List (Int × Int)), 0))) fun (r375 : (List (Int × Int))) => (fun (l356 : List (Int × Int)) => Option.bind (m_impl_sorted l356) fun y549 => some y549) r375

noncomputable def m_impl_HananPoints (l0 : List (Int × Int)) : Option ((List (Int × Int)) × (Bool)) :=
  Option.bind (m_impl_pinsOk l0 7) fun y2 => (bif !y2 then some (([], false)) else Option.bind (m_impl_hanan l0) fun y7 => some ((y7, true)))

def m_slices_Index_impl_Point_impl_Point_s1 (l0 : List (Int × Int)) (p1_0 : Int) (p1_1 : Int) (s53 : Int) : Option (Ctl (Int) (Sum (Unit) ((Int)))) :=
  (fun (x46 : Int) => (bif decide (x46 < (((l0).length : Int))) then Option.bind (geti l0 x46) fun x67 => (bif p1_0 == x67.1 && p1_1 == x67.2 then some (Ctl.out (Sum.inr x46)) else some (Ctl.next (wr (x46 + 1)))) else some (Ctl.out (Sum.inl (()))))) s53
noncomputable def m_slices_Index_impl_Point_impl_Point (l0 : List (Int × Int)) (p1_0 : Int) (p1_1 : Int) : Option ((Int)) :=
  Option.bind (loopM (m_slices_Index_impl_Point_impl_Point_s1 l0 p1_0 p1_1) 0) fun (r50 : Sum (Unit) ((Int))) => match r50 with | Sum.inl q72 => (some ((-1))) | Sum.inr v71 => some v71

noncomputable def m_slices_Contains_impl_Point_impl_Point (l0 : List (Int × Int)) (p1_0 : Int) (p1_1 : Int) : Option ((Bool)) :=
  Option.bind (m_slices_Index_impl_Point_impl_Point l0 p1_0 p1_1) fun y8 => some (decide (y8 ≥ 0))

def m_slices_Clip_impl_Point_impl_Point (l0 : List (Int × Int)) : Option ((List (Int × Int))) :=
  Option.bind (slci l0 0 (((l0).length : Int))) fun y2 => some y2

noncomputable def m_impl_gain (l0 : List (Int × Int)) (p1_0 : Int) (p1_1 : Int) : Option ((Int)) :=
  Option.bind (m_slices_Contains_impl_Point_impl_Point l0 p1_0 p1_1) fun y8 => (bif y8 then some 0 else Option.bind (m_impl_spanning l0) fun y13 => Option.bind (Option.bind (apC l0 (([(p1_0, p1_1)] : List (Int × Int)))) fun _ => Option.bind (m_impl_spanning (l0 ++ (([(p1_0, p1_1)] : List (Int × Int))))) fun y230 => some y230.2) fun (s198 : Int) => (fun (x196 : Int) => some (wr (y13.2 - x196))) s198)

noncomputable def m_impl_oneByOne_s4 (l743 : List (Int × Int)) (y769 : (List (Int × Int))) (s997 : Int × Int × Int × Int) : Option (Ctl (Int × Int × Int × Int) (Int × Int × Int)) :=
  match s997 with | (x985, x986, x987, x988) => (bif decide (x986 < (((y769).length : Int))) then Option.bind (Option.bind (geti y769 x986) fun x1051 => Option.bind (m_impl_gain l743 x1051.1 x1051.2) fun y1065 => (bif decide (y1065 > x985) then some ((y1065, x1051.1, x1051.2)) else some ((x985, x987, x988)))) fun (s1049 : Int × Int × Int) => match s1049 with | (x1041, x1042, x1043) => some (Ctl.next ((x1041, wr (x986 + 1), x1042, x1043))) else some (Ctl.out ((x985, x987, x988))))
noncomputable def m_impl_oneByOne_s3 (l0 : List (Int × Int)) (s755 : (List (Int × Int))) : Option (Ctl ((List (Int × Int))) ((List (Int × Int)))) :=
  (fun (l743 : List (Int × Int)) => (bif decide ((((l743).length : Int)) < 20) then Option.bind (m_impl_hanan l0) fun y769 => Option.bind (loopM (m_impl_oneByOne_s4 l743 y769) ((0, 0, 0, 0))) fun (r994 : Int × Int × Int) => match r994 with | (x977, x978, x979) => (bif x977 == 0 then some (Ctl.out l743) else Option.bind (apC l743 (([(x978, x979)] : List (Int × Int)))) fun _ => some (Ctl.next (l743 ++ (([(x978, x979)] : List (Int × Int)))))) else some (Ctl.out l743))) s755
noncomputable def m_impl_oneByOne (l0 : List (Int × Int)) : Option ((List (Int × Int))) :=
  Option.bind (m_slices_Clone_impl_Point_impl_Point l0) fun y2 => Option.bind (loopM (m_impl_oneByOne_s3 l0) y2) fun (r752 : (List (Int × Int))) => (fun (l734 : List (Int × Int)) => some l734) r752

noncomputable def m_impl_OneByOne (l0 : List (Int × Int)) : Option ((List (Int × Int)) × (Int) × (Bool)) :=
  Option.bind (m_impl_pinsOk l0 7) fun y2 => (bif !y2 then some (([], 0, false)) else Option.bind (m_impl_oneByOne l0) fun y7 => Option.bind (m_impl_spanning y7) fun y18 => Option.bind (slci y7 (((l0).length : Int)) (((y7).length : Int))) fun _ => Option.bind (m_slices_Clone_impl_Point_impl_Point (slc y7 (((l0).length : Int)) (((y7).length : Int)))) fun y40 => some ((y40, y18.2, true)))

def m_laws_b10In_s1 (l0 : List (Int × Int)) (p1_0 : Int) (p1_1 : Int) (s53 : Int) : Option (Ctl (Int) (Sum (Unit) ((Bool)))) :=
  (fun (x46 : Int) => (bif decide (x46 < (((l0).length : Int))) then Option.bind (geti l0 x46) fun x67 => (bif x67.1 == p1_0 && x67.2 == p1_1 then some (Ctl.out (Sum.inr true)) else some (Ctl.next (wr (x46 + 1)))) else some (Ctl.out (Sum.inl (()))))) s53
noncomputable def m_laws_b10In (l0 : List (Int × Int)) (p1_0 : Int) (p1_1 : Int) : Option ((Bool)) :=
  Option.bind (loopM (m_laws_b10In_s1 l0 p1_0 p1_1) 0) fun (r50 : Sum (Unit) ((Bool))) => match r50 with | Sum.inl q72 => (some false) | Sum.inr v71 => some v71

noncomputable def m_spec_SpanningTree (l0 : List (Int × Int)) : Option ((List (List (Int))) × (Int) × (Bool)) :=
  Option.bind (m_spec_l05Is l0) fun y2 => (bif !y2 then some (([], 0, false)) else Option.bind (m_spec_l05Tree l0) fun y7 => Option.bind (m_spec_l05Pairs y7.1) fun y18 => some ((y18, y7.2, true)))

def m_laws_b10At (l0 : List (Int)) (p1 : Int) (p2 : Int) : Option ((Int)) :=
  (bif decide (p2 ≤ 1) then some 0 else (bif decide (p1 < (((l0).length : Int))) then Option.bind (geti l0 p1) fun x4 => Option.bind (nzC p2) fun u6 => some (Int.tmod (wr x4) p2) else Option.bind (nzC p2) fun u8 => some (Int.tmod (wr ((wr (p1 * 37)) + 11)) p2)))

def m_laws_b10Pin (l0 : List (Int)) (p1 : Int) : Option ((Int × Int)) :=
  Option.bind (m_laws_b10At l0 p1 10) fun y8 => Option.bind (m_laws_b10At l0 (wr (p1 + 1)) 10) fun y12 => some ((y8, y12))

def m_impl_middle (p0 : Int) (p1 : Int) (p2 : Int) : Option ((Int)) :=
  some (if (if p2 < (if p1 > p0 then p1 else p0) then p2 else (if p1 > p0 then p1 else p0)) > (if p1 < p0 then p1 else p0) then (if p2 < (if p1 > p0 then p1 else p0) then p2 else (if p1 > p0 then p1 else p0)) else (if p1 < p0 then p1 else p0))

def m_impl_MedianPoint (p0_0 : Int) (p0_1 : Int) (p1_0 : Int) (p1_1 : Int) (p2_0 : Int) (p2_1 : Int) : Option ((Int × Int) × (Bool)) :=
  Option.bind (m_impl_IsPoint p0_0 p0_1) fun y31 => (bif !y31 then some (((0, 0), false)) else Option.bind (m_impl_IsPoint p1_0 p1_1) fun y39 => (bif !y39 then some (((0, 0), false)) else Option.bind (m_impl_IsPoint p2_0 p2_1) fun y47 => (bif !y47 then some (((0, 0), false)) else Option.bind (m_impl_middle p0_0 p1_0 p2_0) fun y78 => Option.bind (m_impl_middle p0_1 p1_1 p2_1) fun y82 => some (((y78, y82), true)))))

def m_slices_Clone_int64_int64 (l0 : List (Int)) : Option ((List (Int))) :=
  Option.bind (apC (([] : List (Int))) l0) fun _ => some ((([] : List (Int))) ++ l0)

noncomputable def m_impl_steiner_s30 (l5247 : List (List (Int))) (x5253 : Int) (x6470 : Int) (s6989 : Int × (List (Int))) : Option (Ctl (Int × (List (Int))) ((List (Int)))) :=
  match s6989 with | (x6979, l6980) => (bif decide (x6979 > 0) then Option.bind (geti l6980 x6470) fun x7036 => Option.bind (geti l5247 x6979) fun x7038 => Option.bind (geti x7038 x6470) fun x7048 => Option.bind (geti l5247 (andNI x5253 x6979)) fun x7050 => Option.bind (geti x7050 x6470) fun x7060 => Option.bind (geti l6980 x6470) fun x7062 => some (Ctl.next ((andI (wr (x6979 - 1)) x5253, l6980.set (Int.toNat x6470) (if (wr (x7048 + x7060)) < x7036 then (wr (x7048 + x7060)) else x7036)))) else some (Ctl.out l6980))
noncomputable def m_impl_steiner_s29 (l0 : List (Int × Int)) (x5253 : Int) (x6470 : Int) (x6484 : Int × Int) (s6714 : Int × (List (Int))) : Option (Ctl (Int × (List (Int))) ((List (Int)))) :=
  match s6714 with | (x6703, l6704) => (bif decide (x6703 < (wr ((((l0).length : Int)) - 1))) then Option.bind (Option.bind (p0C x6703) fun u6767 => (bif x5253 == (shlI 1 x6703) then Option.bind (geti l0 x6703) fun x6795 => Option.bind (m_impl_far x6484.1 x6484.2 x6795.1 x6795.2) fun y6797 => Option.bind (geti l6704 x6470) fun x6801 => some (l6704.set (Int.toNat x6470) y6797) else some l6704)) fun (s6765 : (List (Int))) => (fun (l6758 : List (Int)) => some (Ctl.next ((wr (x6703 + 1), l6758)))) s6765 else some (Ctl.out l6704))
noncomputable def m_impl_steiner_s34 (y2 : (List (Int × Int))) (l6463 : List (Int)) (x7592 : Int) (x7607 : Int × Int) (s7783 : Int × (List (Int))) : Option (Ctl (Int × (List (Int))) ((List (Int)))) :=
  match s7783 with | (x7771, l7772) => (bif decide (x7771 < (((y2).length : Int))) then Option.bind (geti y2 x7771) fun x7787 => Option.bind (geti l7772 x7592) fun x7834 => Option.bind (geti l6463 x7771) fun x7836 => Option.bind (m_impl_far x7607.1 x7607.2 x7787.1 x7787.2) fun y7838 => Option.bind (geti l7772 x7592) fun x7842 => some (Ctl.next ((wr (x7771 + 1), l7772.set (Int.toNat x7592) (if (wr (x7836 + y7838)) < x7834 then (wr (x7836 + y7838)) else x7834)))) else some (Ctl.out l7772))
noncomputable def m_impl_steiner_s33 (y2 : (List (Int × Int))) (l6463 : List (Int)) (s7603 : Int × (List (Int))) : Option (Ctl (Int × (List (Int))) ((List (Int)))) :=
  match s7603 with | (x7592, l7593) => (bif decide (x7592 < (((y2).length : Int))) then Option.bind (geti y2 x7592) fun x7607 => Option.bind (loopM (m_impl_steiner_s34 y2 l6463 x7592 x7607) ((0, l7593))) fun (r7780 : (List (Int))) => (fun (l7763 : List (Int)) => some (Ctl.next ((wr (x7592 + 1), l7763)))) r7780 else some (Ctl.out l7593))
noncomputable def m_impl_steiner_s28 (l0 : List (Int × Int)) (y2 : (List (Int × Int))) (l5247 : List (List (Int))) (x5253 : Int) (s6480 : Int × (List (Int))) : Option (Ctl (Int × (List (Int))) ((List (Int)))) :=
  match s6480 with | (x6470, l6471) => (bif decide (x6470 < (((y2).length : Int))) then Option.bind (geti y2 x6470) fun x6484 => Option.bind (geti l6471 x6470) fun x6498 => Option.bind (loopM (m_impl_steiner_s29 l0 x5253 x6470 x6484) ((0, l6471.set (Int.toNat x6470) 1000000000))) fun (r6711 : (List (Int))) => (fun (l6696 : List (Int)) => Option.bind (loopM (m_impl_steiner_s30 l5247 x5253 x6470) ((andI (wr (x5253 - 1)) x5253, l6696))) fun (r6986 : (List (Int))) => (fun (l6972 : List (Int)) => some (Ctl.next ((wr (x6470 + 1), l6972)))) r6986) r6711 else some (Ctl.out l6471))
noncomputable def m_impl_steiner_s23 (l0 : List (Int × Int)) (y2 : (List (Int × Int))) (s5263 : (List (List (Int))) × Int) : Option (Ctl ((List (List (Int))) × Int) ((List (List (Int))))) :=
  match s5263 with | (l5247, x5253) => Option.bind (p0C (wr ((((l0).length : Int)) - 1))) fun u5266 => (bif decide (x5253 < (shlI 1 (wr ((((l0).length : Int)) - 1)))) then Option.bind (mkC (((y2).length : Int))) fun _ => Option.bind (loopM (m_impl_steiner_s28 l0 y2 l5247 x5253) ((0, List.replicate (Int.toNat (((y2).length : Int))) ((0 : Int))))) fun (r6477 : (List (Int))) => (fun (l6463 : List (Int)) => Option.bind (m_slices_Clone_int64_int64 l6463) fun y7070 => Option.bind (loopM (m_impl_steiner_s33 y2 l6463) ((0, y7070))) fun (r7600 : (List (Int))) => (fun (l7585 : List (Int)) => Option.bind (geti l5247 x5253) fun x7850 => some (Ctl.next ((l5247.set (Int.toNat x5253) l7585, wr (x5253 + 1))))) r7600) r6477 else some (Ctl.out l5247))
noncomputable def m_impl_steiner (l0 : List (Int × Int)) : Option ((Int)) :=
  Option.bind (m_impl_hanan l0) fun y2 => (bif (wr ((((l0).length : Int)) - 1)) == 0 then some 0 else Option.bind (p0C (wr ((((l0).length : Int)) - 1))) fun u14 => Option.bind (mkC (shlI 1 (wr ((((l0).length : Int)) - 1)))) fun _ => Option.bind (loopM (m_impl_steiner_s23 l0 y2) ((List.replicate (Int.toNat (shlI 1 (wr ((((l0).length : Int)) - 1)))) ([] : List (Int)), 1))) fun (r5260 : (List (List (Int)))) => (fun (l5234 : List (List (Int))) => Option.bind (p0C (wr ((((l0).length : Int)) - 1))) fun u7894 => Option.bind (geti l5234 (wr ((shlI 1 (wr ((((l0).length : Int)) - 1))) - 1))) fun x7896 => Option.bind (geti l0 (wr ((((l0).length : Int)) - 1))) fun x7906 => Option.bind (m_slices_Index_impl_Point_impl_Point y2 x7906.1 x7906.2) fun y7908 => Option.bind (geti x7896 y7908) fun x7913 => some x7913) r5260)

noncomputable def m_impl_SteinerLength (l0 : List (Int × Int)) : Option ((Int) × (Bool)) :=
  Option.bind (m_impl_pinsOk l0 7) fun y2 => (bif !y2 then some ((0, false)) else Option.bind (m_impl_steiner l0) fun y7 => some ((y7, true)))

noncomputable def m_impl_ArePins (l0 : List (Int × Int)) : Option ((Bool)) :=
  Option.bind (m_impl_pinsOk l0 20) fun y2 => some y2

def m_impl_box_s1 (l0 : List (Int × Int)) (s304 : Int × Int × Int × Int × Int) : Option (Ctl (Int × Int × Int × Int × Int) (Int × Int × Int × Int)) :=
  match s304 with | (x290, x291, x292, x293, x294) => (bif decide (x290 < (((l0).length : Int))) then Option.bind (geti l0 x290) fun x308 => some (Ctl.next ((wr (x290 + 1), if x308.1 < x291 then x308.1 else x291, if x308.2 < x292 then x308.2 else x292, if x308.1 > x293 then x308.1 else x293, if x308.2 > x294 then x308.2 else x294))) else some (Ctl.out ((x291, x292, x293, x294))))
noncomputable def m_impl_box (l0 : List (Int × Int)) : Option ((Int × Int) × (Int × Int)) :=
  Option.bind (Option.bind (geti l0 0) fun x162 => Option.bind (geti l0 0) fun x164 => some ((x162.1, x162.2, x164.1, x164.2))) fun (s155 : Int × Int × Int × Int) => match s155 with | (x135, x136, x139, x140) => Option.bind (loopM (m_impl_box_s1 l0) ((0, x135, x136, x139, x140))) fun (r301 : Int × Int × Int × Int) => match r301 with | (x280, x281, x282, x283) => some (((x280, x281), (x282, x283)))

noncomputable def m_impl_BoxBound (l0 : List (Int × Int)) : Option ((Int) × (Bool)) :=
  Option.bind (m_impl_ArePins l0) fun y2 => (bif !y2 then some ((0, false)) else Option.bind (m_impl_box l0) fun y7 => Option.bind (m_impl_far y7.1.1 y7.1.2 y7.2.1 y7.2.2) fun y30 => some ((y30, true)))

def m_impl_star_s1 (l0 : List (Int × Int)) (p1_0 : Int) (p1_1 : Int) (s62 : Int × Int) : Option (Ctl (Int × Int) (Int)) :=
  match s62 with | (x54, x55) => (bif decide (x55 < (((l0).length : Int))) then Option.bind (geti l0 x55) fun x66 => Option.bind (m_impl_far x66.1 x66.2 p1_0 p1_1) fun y78 => some (Ctl.next ((wr (x54 + y78), wr (x55 + 1)))) else some (Ctl.out x54))
noncomputable def m_impl_star (l0 : List (Int × Int)) (p1_0 : Int) (p1_1 : Int) : Option ((Int)) :=
  Option.bind (loopM (m_impl_star_s1 l0 p1_0 p1_1) ((0, 0))) fun (r59 : Int) => (fun (x51 : Int) => some x51) r59

noncomputable def m_impl_StarLength (l0 : List (Int × Int)) (p1_0 : Int) (p1_1 : Int) : Option ((Int) × (Bool)) :=
  Option.bind (m_impl_ArePins l0) fun y8 => (bif !y8 then some ((0, false)) else Option.bind (m_impl_IsPoint p1_0 p1_1) fun y13 => (bif !y13 then some ((0, false)) else Option.bind (m_impl_star l0 p1_0 p1_1) fun y18 => some ((y18, true))))

noncomputable def m_laws_FnFurther_s4 (y8 : (List (Int × Int))) (y19 : (List (Int × Int)) × (Bool)) (x320 : Int) (s422 : Int) : Option (Ctl (Int) (Sum (Unit) ((Bool)))) :=
  (fun (x413 : Int) => (bif decide (x413 < (((y8).length : Int))) then Option.bind (geti y8 x320) fun x446 => Option.bind (geti y8 x413) fun x448 => Option.bind (m_laws_b10In y19.1 x446.1 x448.2) fun y450 => (bif !y450 then some (Ctl.out (Sum.inr false)) else some (Ctl.next (wr (x413 + 1)))) else some (Ctl.out (Sum.inl (()))))) s422
noncomputable def m_laws_FnFurther_s5 (y19 : (List (Int × Int)) × (Bool)) (y31 : (List (Int × Int)) × (Int) × (Bool)) (s659 : (List (Int × Int)) × Int × Int) : Option (Ctl ((List (Int × Int)) × Int × Int) (Sum (Int) ((Bool)))) :=
  match s659 with | (l641, x646, x647) => (bif decide (x647 < (((y31.1).length : Int))) then Option.bind (geti y31.1 x647) fun x663 => Option.bind (m_laws_b10In y19.1 x663.1 x663.2) fun y665 => (bif !y665 then some (Ctl.out (Sum.inr false)) else Option.bind (geti y31.1 x647) fun x671 => Option.bind (m_laws_b10In l641 x671.1 x671.2) fun y673 => (bif y673 then some (Ctl.out (Sum.inr false)) else Option.bind (geti y31.1 x647) fun x679 => Option.bind (apC l641 (([(x679.1, x679.2)] : List (Int × Int)))) fun _ => Option.bind (m_spec_SpanningTree (l641 ++ (([(x679.1, x679.2)] : List (Int × Int))))) fun y703 => (bif !y703.2.2 then some (Ctl.out (Sum.inr false)) else (bif decide (y703.2.1 ≥ x646) then some (Ctl.out (Sum.inr false)) else some (Ctl.next ((l641 ++ (([(x679.1, x679.2)] : List (Int × Int))), y703.2.1, wr (x647 + 1)))))))) else some (Ctl.out (Sum.inl x646)))
noncomputable def m_laws_FnFurther_s3 (y8 : (List (Int × Int))) (y19 : (List (Int × Int)) × (Bool)) (s329 : Int) : Option (Ctl (Int) (Sum (Unit) ((Bool)))) :=
  (fun (x320 : Int) => (bif decide (x320 < (((y8).length : Int))) then Option.bind (loopM (m_laws_FnFurther_s4 y8 y19 x320) 0) fun (r419 : Sum (Unit) ((Bool))) => match r419 with | Sum.inl q458 => (some (Ctl.next (wr (x320 + 1)))) | Sum.inr v457 => some (Ctl.out (Sum.inr v457)) else some (Ctl.out (Sum.inl (()))))) s329
noncomputable def m_laws_FnFurther (l0 : List (Int)) (l1 : List (Int)) : Option ((Bool)) :=
  Option.bind (m_laws_b10Long l0 l1) fun y3 => (bif y3 then some true else Option.bind (m_spec_B10Pins l0 6) fun y8 => Option.bind (m_impl_HananPoints y8) fun y19 => Option.bind (m_impl_OneByOne y8) fun y31 => (bif !y19.2 then some false else (bif !y31.2.2 then some false else (bif decide ((((y19.1).length : Int)) < 1) then some false else Option.bind (loopM (m_laws_FnFurther_s3 y8 y19) 0) fun (r326 : Sum (Unit) ((Bool))) => match r326 with | Sum.inl q822 => (Option.bind (apC (([] : List (Int × Int))) y8) fun _ => Option.bind (m_spec_SpanningTree ((([] : List (Int × Int))) ++ y8)) fun y482 => (bif !y482.2.2 then some false else Option.bind (loopM (m_laws_FnFurther_s5 y19 y31) (((([] : List (Int × Int))) ++ y8, y482.2.1, 0))) fun (r656 : Sum (Int) ((Bool))) => match r656 with | Sum.inl q820 => ((fun (x637 : Int) => (bif x637 != y31.2.1 then some false else Option.bind (m_laws_b10Pin l1 0) fun y723 => Option.bind (m_laws_b10Pin l1 2) fun y736 => Option.bind (m_laws_b10Pin l1 4) fun y750 => Option.bind (m_impl_MedianPoint y723.1 y723.2 y736.1 y736.2 y750.1 y750.2) fun y765 => (bif !y765.2 then some false else (bif y723.1 == y736.1 && y723.2 == y736.2 then some true else (bif y736.1 == y750.1 && y736.2 == y750.2 then some true else (bif y723.1 == y750.1 && y723.2 == y750.2 then some true else Option.bind (m_impl_SteinerLength (([(y723.1, y723.2), (y736.1, y736.2), (y750.1, y750.2)] : List (Int × Int)))) fun y797 => Option.bind (m_impl_BoxBound (([(y723.1, y723.2), (y736.1, y736.2), (y750.1, y750.2)] : List (Int × Int)))) fun y801 => Option.bind (m_impl_StarLength (([(y723.1, y723.2), (y736.1, y736.2), (y750.1, y750.2)] : List (Int × Int))) y765.1.1 y765.1.2) fun y805 => (bif y797.2 then (bif y801.2 then (bif y805.2 then (bif y797.1 == y801.1 then some (y805.1 == y801.1) else some false) else some false) else some false) else some false))))))) q820) | Sum.inr v819 => some v819)) | Sum.inr v821 => some v821))))

noncomputable def m_impl_BestRoot_s1 (l0 : List (Int × Int)) (y16 : (List (Int × Int))) (s287 : Int × Int × Int) : Option (Ctl (Int × Int × Int) (Int × Int)) :=
  match s287 with | (x276, x277, x278) => (bif decide (x276 < (((y16).length : Int))) then Option.bind (Option.bind (geti y16 x276) fun x349 => Option.bind (m_impl_star l0 x349.1 x349.2) fun y385 => Option.bind (m_impl_star l0 x277 x278) fun y389 => (bif decide (y385 < y389) then some ((x349.1, x349.2)) else some ((x277, x278)))) fun (s347 : Int × Int) => match s347 with | (x340, x341) => some (Ctl.next ((wr (x276 + 1), x340, x341))) else some (Ctl.out ((x277, x278))))
noncomputable def m_impl_BestRoot (l0 : List (Int × Int)) : Option ((Int × Int) × (Int) × (Bool)) :=
  Option.bind (m_impl_ArePins l0) fun y8 => (bif !y8 then some (((0, 0), 0, false)) else Option.bind (m_impl_hanan l0) fun y16 => Option.bind (geti y16 0) fun x28 => Option.bind (loopM (m_impl_BestRoot_s1 l0 y16) ((0, x28.1, x28.2))) fun (r284 : Int × Int) => match r284 with | (x269, x270) => Option.bind (m_impl_star l0 x269 x270) fun y415 => some (((x269, x270), y415, true)))

def m_spec_l01Before (p0_0 : Int) (p0_1 : Int) (p1_0 : Int) (p1_1 : Int) : Option ((Bool)) :=
  (bif decide (p0_0 < p1_0) then some true else (bif p0_0 == p1_0 then some (decide (p0_1 < p1_1)) else some false))

noncomputable def m_spec_l01Sorted_s4 (l0 : List (Int × Int)) (l503 : List (Int × Int)) (x508 : Int) (s601 : Int) : Option (Ctl (Int) (Int)) :=
  (fun (x594 : Int) => (bif decide (x594 < (((l503).length : Int))) then Option.bind (geti l503 x594) fun x622 => Option.bind (geti l0 x508) fun x624 => Option.bind (m_spec_l01Before x622.1 x622.2 x624.1 x624.2) fun y626 => (bif y626 then some (Ctl.next (wr (x594 + 1))) else some (Ctl.out x594)) else some (Ctl.out x594))) s601
noncomputable def m_spec_l01Sorted_s3 (l0 : List (Int × Int)) (s516 : (List (Int × Int)) × Int) : Option (Ctl ((List (Int × Int)) × Int) ((List (Int × Int)))) :=
  match s516 with | (l503, x508) => (bif decide (x508 < (((l0).length : Int))) then Option.bind (geti l0 x508) fun x520 => Option.bind (m_spec_l01Index l503 x520.1 x520.2) fun y522 => (bif decide (y522 ≥ 0) then some (Ctl.next ((l503, wr (x508 + 1)))) else Option.bind (loopM (m_spec_l01Sorted_s4 l0 l503 x508) 0) fun (r598 : Int) => (fun (x589 : Int) => Option.bind (slci l503 x589 (((l503).length : Int))) fun _ => Option.bind (apC (([] : List (Int × Int))) (slc l503 x589 (((l503).length : Int)))) fun _ => Option.bind (slci l503 0 x589) fun _ => Option.bind (geti l0 x508) fun x719 => Option.bind (apC (l503.take (Int.toNat x589)) (([(x719.1, x719.2)] : List (Int × Int)))) fun _ => Option.bind (apC ((l503.take (Int.toNat x589)) ++ (([(x719.1, x719.2)] : List (Int × Int)))) ((([] : List (Int × Int))) ++ (slc l503 x589 (((l503).length : Int))))) fun _ => some (Ctl.next ((((l503.take (Int.toNat x589)) ++ (([(x719.1, x719.2)] : List (Int × Int)))) ++ ((([] : List (Int × Int))) ++ (slc l503 x589 (((l503).length : Int)))), wr (x508 + 1))))) r598) else some (Ctl.out l503))
noncomputable def m_spec_l01Sorted (l0 : List (Int × Int)) : Option ((List (Int × Int))) :=
  Option.bind (loopM (m_spec_l01Sorted_s3 l0) ((([] : List (Int × Int)), 0))) fun (r513 : (List (Int × Int))) => (fun (l494 : List (Int × Int)) => some l494) r513

def m_spec_l05Hanan_s4 (l0 : List (Int × Int)) (x450 : Int) (s609 : (List (Int × Int)) × Int) : Option (Ctl ((List (Int × Int)) × Int) ((List (Int × Int)))) :=
  match s609 with | (l596, x601) => (bif decide (x601 < (((l0).length : Int))) then Option.bind (geti l0 x450) fun x644 => Option.bind (geti l0 x601) fun x646 => Option.bind (apC l596 (([(x644.1, x646.2)] : List (Int × Int)))) fun _ => some (Ctl.next ((l596 ++ (([(x644.1, x646.2)] : List (Int × Int))), wr (x601 + 1)))) else some (Ctl.out l596))
noncomputable def m_spec_l05Hanan_s3 (l0 : List (Int × Int)) (s458 : (List (Int × Int)) × Int) : Option (Ctl ((List (Int × Int)) × Int) ((List (Int × Int)))) :=
  match s458 with | (l445, x450) => (bif decide (x450 < (((l0).length : Int))) then Option.bind (loopM (m_spec_l05Hanan_s4 l0 x450) ((l445, 0))) fun (r606 : (List (Int × Int))) => (fun (l586 : List (Int × Int)) => some (Ctl.next ((l586, wr (x450 + 1))))) r606 else some (Ctl.out l445))
noncomputable def m_spec_l05Hanan (l0 : List (Int × Int)) : Option ((List (Int × Int))) :=
  Option.bind (loopM (m_spec_l05Hanan_s3 l0) ((([] : List (Int × Int)), 0))) fun (r455 : (List (Int × Int))) => (fun (l436 : List (Int × Int)) => Option.bind (m_spec_l01Sorted l436) fun y669 => some y669) r455

def m_spec_l00Own (l0 : List (Int)) : Option ((List (Int))) :=
  Option.bind (apC (([] : List (Int))) l0) fun _ => some ((([] : List (Int))) ++ l0)

def m_spec_l00Min (p0 : Int) (p1 : Int) : Option ((Int)) :=
  (bif decide (p0 < p1) then some p0 else some p1)

noncomputable def m_spec_l05Steiner_s30 (x7259 : Int) (x8811 : Int) (l8812 : List (List (Int))) (s9391 : Int × Int) : Option (Ctl (Int × Int) (Int)) :=
  match s9391 with | (x9382, x9383) => (bif decide (x9383 > 0) then Option.bind (Option.bind (geti l8812 x9383) fun x9516 => Option.bind (geti x9516 x8811) fun x9529 => Option.bind (geti l8812 (andNI x7259 x9383)) fun x9531 => Option.bind (geti x9531 x8811) fun x9544 => (bif decide (x9382 < 0) then some (wr (x9529 + x9544)) else (bif decide ((wr (x9529 + x9544)) < x9382) then some (wr (x9529 + x9544)) else some x9382))) fun (s9474 : Int) => (fun (x9469 : Int) => some (Ctl.next ((x9469, andI (wr (x9383 - 1)) x7259)))) s9474 else some (Ctl.out x9382))
noncomputable def m_spec_l05Steiner_s29 (l0 : List (Int × Int)) (y2 : (List (Int × Int))) (x7259 : Int) (x8811 : Int) (s8984 : Int × Int) : Option (Ctl (Int × Int) (Int)) :=
  match s8984 with | (x8975, x8976) => (bif decide (x8976 < (((l0).length : Int))) then Option.bind (Option.bind (p0C (wu x8976)) fun u9025 => (bif x7259 == (shlI 1 (wu x8976)) then Option.bind (geti l0 x8976) fun x9046 => Option.bind (geti y2 x8811) fun x9048 => Option.bind (m_spec_l01Far x9046.1 x9046.2 x9048.1 x9048.2) fun y9050 => some y9050 else some x8975)) fun (s9023 : Int) => (fun (x9018 : Int) => some (Ctl.next ((x9018, wr (x8976 + 1))))) s9023 else some (Ctl.out x8975))
noncomputable def m_spec_l05Steiner_s34 (y2 : (List (Int × Int))) (x7259 : Int) (y9587 : (List (Int))) (x10446 : Int) (s10742 : Int × (List (List (Int)))) : Option (Ctl (Int × (List (List (Int)))) ((List (List (Int))))) :=
  match s10742 with | (x10732, l10733) => (bif decide (x10732 < (((y2).length : Int))) then Option.bind (geti l10733 x7259) fun x10814 => Option.bind (geti l10733 x7259) fun x10827 => Option.bind (geti x10827 x10446) fun x10840 => Option.bind (geti y9587 x10732) fun x10842 => Option.bind (geti y2 x10732) fun x10844 => Option.bind (geti y2 x10446) fun x10846 => Option.bind (m_spec_l01Far x10844.1 x10844.2 x10846.1 x10846.2) fun y10848 => Option.bind (m_spec_l00Min x10840 (wr (x10842 + y10848))) fun y10854 => Option.bind (geti x10814 x10446) fun x10860 => some (Ctl.next ((wr (x10732 + 1), l10733.set (Int.toNat x7259) (x10814.set (Int.toNat x10446) y10854)))) else some (Ctl.out l10733))
noncomputable def m_spec_l05Steiner_s33 (y2 : (List (Int × Int))) (x7259 : Int) (y9587 : (List (Int))) (s10456 : Int × (List (List (Int)))) : Option (Ctl (Int × (List (List (Int)))) ((List (List (Int))))) :=
  match s10456 with | (x10446, l10447) => (bif decide (x10446 < (((y2).length : Int))) then Option.bind (loopM (m_spec_l05Steiner_s34 y2 x7259 y9587 x10446) ((0, l10447))) fun (r10739 : (List (List (Int)))) => (fun (l10725 : List (List (Int))) => some (Ctl.next ((wr (x10446 + 1), l10725)))) r10739 else some (Ctl.out l10447))
noncomputable def m_spec_l05Steiner_s28 (l0 : List (Int × Int)) (y2 : (List (Int × Int))) (x7259 : Int) (s8820 : Int × (List (List (Int)))) : Option (Ctl (Int × (List (List (Int)))) ((List (List (Int))))) :=
  match s8820 with | (x8811, l8812) => (bif decide (x8811 < (((y2).length : Int))) then Option.bind (loopM (m_spec_l05Steiner_s29 l0 y2 x7259 x8811) (((-1), 0))) fun (r8981 : Int) => (fun (x8969 : Int) => Option.bind (loopM (m_spec_l05Steiner_s30 x7259 x8811 l8812) ((x8969, andI (wr (x7259 - 1)) x7259))) fun (r9388 : Int) => (fun (x9376 : Int) => Option.bind (geti l8812 x7259) fun x9550 => Option.bind (geti x9550 x8811) fun x9563 => some (Ctl.next ((wr (x8811 + 1), l8812.set (Int.toNat x7259) (x9550.set (Int.toNat x8811) x9376))))) r9388) r8981 else some (Ctl.out l8812))
noncomputable def m_spec_l05Steiner_s35 (l0 : List (Int × Int)) (y2 : (List (Int × Int))) (l7243 : List (List (Int))) (s10948 : Int × Int) : Option (Ctl (Int × Int) (Int)) :=
  match s10948 with | (x10941, x10942) => (bif decide (x10942 < (((y2).length : Int))) then Option.bind (geti l7243 (wr ((shlI 1 (wu (((l0).length : Int)))) - 1))) fun x10952 => Option.bind (geti x10952 x10942) fun x10965 => Option.bind (m_spec_l00Min x10941 x10965) fun y10967 => some (Ctl.next ((y10967, wr (x10942 + 1)))) else some (Ctl.out x10941))
noncomputable def m_spec_l05Steiner_s23 (l0 : List (Int × Int)) (y2 : (List (Int × Int))) (s7269 : (List (List (Int))) × Int) : Option (Ctl ((List (List (Int))) × Int) ((List (List (Int))))) :=
  match s7269 with | (l7253, x7259) => (bif decide (x7259 < (shlI 1 (wu (((l0).length : Int))))) then Option.bind (mkC (((y2).length : Int))) fun _ => Option.bind (geti l7253 x7259) fun x7282 => Option.bind (loopM (m_spec_l05Steiner_s28 l0 y2 x7259) ((0, l7253.set (Int.toNat x7259) (List.replicate (Int.toNat (((y2).length : Int))) ((0 : Int)))))) fun (r8817 : (List (List (Int)))) => (fun (l8805 : List (List (Int))) => Option.bind (geti l8805 x7259) fun x9574 => Option.bind (m_spec_l00Own x9574) fun y9587 => Option.bind (loopM (m_spec_l05Steiner_s33 y2 x7259 y9587) ((0, l8805))) fun (r10453 : (List (List (Int)))) => (fun (l10440 : List (List (Int))) => some (Ctl.next ((l10440, wr (x7259 + 1))))) r10453) r8817 else some (Ctl.out l7253))
noncomputable def m_spec_l05Steiner (l0 : List (Int × Int)) : Option ((Int)) :=
  Option.bind (m_spec_l05Hanan l0) fun y2 => Option.bind (p0C (wu (((l0).length : Int)))) fun u13 => Option.bind (mkC (shlI 1 (wu (((l0).length : Int))))) fun _ => Option.bind (loopM (m_spec_l05Steiner_s23 l0 y2) ((List.replicate (Int.toNat (shlI 1 (wu (((l0).length : Int))))) ([] : List (Int)), 1))) fun (r7266 : (List (List (Int)))) => (fun (l7243 : List (List (Int))) => Option.bind (geti l7243 (wr ((shlI 1 (wu (((l0).length : Int)))) - 1))) fun x10874 => Option.bind (geti x10874 0) fun x10887 => Option.bind (loopM (m_spec_l05Steiner_s35 l0 y2 l7243) ((x10887, 1))) fun (r10945 : Int) => (fun (x10938 : Int) => some x10938) r10945) r7266

noncomputable def m_spec_SteinerLength (l0 : List (Int × Int)) : Option ((Int) × (Bool)) :=
  Option.bind (m_spec_l05Few l0) fun y2 => (bif !y2 then some ((0, false)) else Option.bind (m_spec_l05Steiner l0) fun y7 => some ((y7, true)))

def m_laws_b10Abs (p0 : Int) : Option ((Int)) :=
  (bif decide (p0 < 0) then some (wr (0 - p0)) else some p0)

def m_laws_b10Far (p0_0 : Int) (p0_1 : Int) (p1_0 : Int) (p1_1 : Int) : Option ((Int)) :=
  Option.bind (m_laws_b10Abs (wr (p0_0 - p1_0))) fun y30 => Option.bind (m_laws_b10Abs (wr (p0_1 - p1_1))) fun y34 => some (wr (y30 + y34))

def m_laws_markInt64S_s1  (s40 : Int × Int × (List (Int))) : Option (Ctl (Int × Int × (List (Int))) (Int × (List (Int)))) :=
  match s40 with | (x31, x32, l33) => (bif decide (x32 < (((l33).length : Int))) then Option.bind (geti l33 x32) fun x44 => some (Ctl.next ((wr (x31 + 1), wr (x32 + 1), l33.set (Int.toNat x32) x31))) else some (Ctl.out ((x31, l33))))
noncomputable def m_laws_markInt64S (l0 : List (Int)) (p1 : Int) : Option ((Int) × (List (Int))) :=
  Option.bind (loopM (m_laws_markInt64S_s1) ((p1, 0, l0))) fun (r37 : Int × (List (Int))) => match r37 with | (x25, l26) => some ((x25, l26))

noncomputable def m_laws_markInt64SS_s1  (s70 : Int × Int × (List (List (Int)))) : Option (Ctl (Int × Int × (List (List (Int)))) (Int × (List (List (Int))))) :=
  match s70 with | (x61, x62, l63) => (bif decide (x62 < (((l63).length : Int))) then Option.bind (geti l63 x62) fun x74 => Option.bind (m_laws_markInt64S x74 x61) fun y86 => some (Ctl.next ((y86.1, wr (x62 + 1), l63.set (Int.toNat x62) y86.2))) else some (Ctl.out ((x61, l63))))
noncomputable def m_laws_markInt64SS (l0 : List (List (Int))) (p1 : Int) : Option ((Int) × (List (List (Int)))) :=
  Option.bind (loopM (m_laws_markInt64SS_s1) ((p1, 0, l0))) fun (r67 : Int × (List (List (Int)))) => match r67 with | (x55, l56) => some ((x55, l56))

noncomputable def m_laws_markMaze (l0_0 : List (List (Int))) (p1 : Int) : Option ((Int) × (List (List (Int)))) :=
  Option.bind (m_laws_markInt64SS l0_0 p1) fun y8 => some ((y8.1, y8.2))

def m_laws_markPointS_s1  (s52 : Int × Int × (List (Int × Int))) : Option (Ctl (Int × Int × (List (Int × Int))) (Int × (List (Int × Int)))) :=
  match s52 with | (x43, x44, l45) => (bif decide (x44 < (((l45).length : Int))) then Option.bind (geti l45 x44) fun x56 => Option.bind (geti (l45.set (Int.toNat x44) ((x43, x56.2))) x44) fun x62 => some (Ctl.next ((wr ((wr (x43 + 1)) + 1), wr (x44 + 1), (l45.set (Int.toNat x44) ((x43, x56.2))).set (Int.toNat x44) ((x62.1, wr (x43 + 1)))))) else some (Ctl.out ((x43, l45))))
noncomputable def m_laws_markPointS (l0 : List (Int × Int)) (p1 : Int) : Option ((Int) × (List (Int × Int))) :=
  Option.bind (loopM (m_laws_markPointS_s1) ((p1, 0, l0))) fun (r49 : Int × (List (Int × Int))) => match r49 with | (x37, l38) => some ((x37, l38))

def m_laws_heldPointS_s1 (l0 : List (Int × Int)) (s37 : Int × Int) : Option (Ctl (Int × Int) (Sum (Int) ((Int)))) :=
  match s37 with | (x30, x31) => (bif decide (x31 < (((l0).length : Int))) then Option.bind (geti l0 x31) fun x41 => (bif x41.1 != x30 then some (Ctl.out (Sum.inr ((-1)))) else Option.bind (geti l0 x31) fun x44 => (bif x44.2 != (wr (x30 + 1)) then some (Ctl.out (Sum.inr ((-1)))) else some (Ctl.next ((wr ((wr (x30 + 1)) + 1), wr (x31 + 1)))))) else some (Ctl.out (Sum.inl x30)))
noncomputable def m_laws_heldPointS (l0 : List (Int × Int)) (p1 : Int) : Option ((Int)) :=
  Option.bind (loopM (m_laws_heldPointS_s1 l0) ((p1, 0))) fun (r34 : Sum (Int) ((Int))) => match r34 with | Sum.inl q51 => ((fun (x27 : Int) => some x27) q51) | Sum.inr v50 => some v50

noncomputable def m_laws_szPointSS_s1 (l0 : List (List (Int × Int))) (s48 : Int × Int) : Option (Ctl (Int × Int) (Sum (Int) ((Int)))) :=
  match s48 with | (x41, x42) => (bif decide (x42 < (((l0).length : Int))) then Option.bind (geti l0 x42) fun x52 => Option.bind (m_laws_szPointS x52 x41) fun y60 => (bif decide (y60 < 0) then some (Ctl.out (Sum.inr ((-1)))) else some (Ctl.next ((y60, wr (x42 + 1))))) else some (Ctl.out (Sum.inl x41)))
noncomputable def m_laws_szPointSS (l0 : List (List (Int × Int))) (p1 : Int) : Option ((Int)) :=
  (bif decide ((wr (p1 - (((l0).length : Int)))) < 0) then some ((-1)) else Option.bind (loopM (m_laws_szPointSS_s1 l0) ((wr (p1 - (((l0).length : Int))), 0))) fun (r45 : Sum (Int) ((Int))) => match r45 with | Sum.inl q67 => ((fun (x38 : Int) => some x38) q67) | Sum.inr v66 => some v66)

noncomputable def m_spec_l01Path_s1 (l0 : List (Int × Int)) (s170 : Int) : Option (Ctl (Int) (Sum (Unit) ((Bool)))) :=
  (fun (x164 : Int) => (bif decide (x164 < (((l0).length : Int))) then Option.bind (geti l0 x164) fun x212 => Option.bind (m_spec_l01Point x212.1 x212.2) fun y214 => (bif !y214 then some (Ctl.out (Sum.inr false)) else Option.bind (slci l0 0 x164) fun y220 => Option.bind (geti l0 x164) fun x229 => Option.bind (m_spec_l01Index y220 x229.1 x229.2) fun y231 => (bif decide (y231 ≥ 0) then some (Ctl.out (Sum.inr false)) else (bif decide (x164 > 0) then Option.bind (geti l0 (wr (x164 - 1))) fun x238 => Option.bind (geti l0 x164) fun x240 => Option.bind (m_spec_l01Far x238.1 x238.2 x240.1 x240.2) fun y242 => (bif y242 != 1 then some (Ctl.out (Sum.inr false)) else some (Ctl.next (wr (x164 + 1)))) else some (Ctl.next (wr (x164 + 1)))))) else some (Ctl.out (Sum.inl (()))))) s170
noncomputable def m_spec_l01Path (l0 : List (Int × Int)) : Option ((Bool)) :=
  (bif decide ((((l0).length : Int)) < 1) then some false else (bif decide ((((l0).length : Int)) > 576) then some false else Option.bind (loopM (m_spec_l01Path_s1 l0) 0) fun (r167 : Sum (Unit) ((Bool))) => match r167 with | Sum.inl q251 => (some true) | Sum.inr v250 => some v250))

noncomputable def m_spec_l07Paths_s1 (l0 : List (List (Int × Int))) (s63 : Int) : Option (Ctl (Int) (Sum (Unit) ((Bool)))) :=
  (fun (x57 : Int) => (bif decide (x57 < (((l0).length : Int))) then Option.bind (geti l0 x57) fun x67 => (bif decide ((((x67).length : Int)) < 2) then some (Ctl.out (Sum.inr false)) else Option.bind (geti l0 x57) fun x76 => Option.bind (m_spec_l01Path x76) fun y84 => (bif !y84 then some (Ctl.out (Sum.inr false)) else some (Ctl.next (wr (x57 + 1))))) else some (Ctl.out (Sum.inl (()))))) s63
noncomputable def m_spec_l07Paths (l0 : List (List (Int × Int))) : Option ((Bool)) :=
  Option.bind (loopM (m_spec_l07Paths_s1 l0) 0) fun (r60 : Sum (Unit) ((Bool))) => match r60 with | Sum.inl q91 => (some (decide ((((l0).length : Int)) ≤ 6))) | Sum.inr v90 => some v90

def m_spec_l01Bend (l0 : List (Int × Int)) (p1 : Int) : Option ((Bool)) :=
  (bif decide (p1 > 0) then (bif decide ((wr (p1 + 1)) < (((l0).length : Int))) then Option.bind (geti l0 (wr (p1 - 1))) fun x21 => Option.bind (geti l0 (wr (p1 + 1))) fun x23 => (bif x21.1 != x23.1 then Option.bind (geti l0 (wr (p1 - 1))) fun x26 => Option.bind (geti l0 (wr (p1 + 1))) fun x28 => some (x26.2 != x28.2) else some false) else some false) else some false)

noncomputable def m_spec_l01Corners_s1 (l0 : List (Int × Int)) (s338 : (List (Int × Int)) × Int) : Option (Ctl ((List (Int × Int)) × Int) ((List (Int × Int)))) :=
  match s338 with | (l325, x330) => (bif decide (x330 < (((l0).length : Int))) then Option.bind ((bif x330 == 0 then Option.bind (geti l0 x330) fun x422 => Option.bind (apC l325 (([(x422.1, x422.2)] : List (Int × Int)))) fun _ => some (l325 ++ (([(x422.1, x422.2)] : List (Int × Int)))) else (bif x330 == (wr ((((l0).length : Int)) - 1)) then Option.bind (geti l0 x330) fun x443 => Option.bind (apC l325 (([(x443.1, x443.2)] : List (Int × Int)))) fun _ => some (l325 ++ (([(x443.1, x443.2)] : List (Int × Int)))) else Option.bind (m_spec_l01Bend l0 x330) fun y463 => (bif y463 then Option.bind (geti l0 x330) fun x468 => Option.bind (apC l325 (([(x468.1, x468.2)] : List (Int × Int)))) fun _ => some (l325 ++ (([(x468.1, x468.2)] : List (Int × Int)))) else some l325)))) fun (s419 : (List (Int × Int))) => (fun (l410 : List (Int × Int)) => some (Ctl.next ((l410, wr (x330 + 1))))) s419 else some (Ctl.out l325))
noncomputable def m_spec_l01Corners (l0 : List (Int × Int)) : Option ((List (Int × Int))) :=
  Option.bind (loopM (m_spec_l01Corners_s1 l0) ((([] : List (Int × Int)), 0))) fun (r335 : (List (Int × Int))) => (fun (l316 : List (Int × Int)) => some l316) r335

noncomputable def m_spec_l07Segments_s4 (x319 : Int) (y339 : (List (Int × Int))) (s441 : (List (List (Int))) × Int) : Option (Ctl ((List (List (Int))) × Int) ((List (List (Int))))) :=
  match s441 with | (l427, x433) => (bif decide (x433 < (((y339).length : Int))) then Option.bind (apC l427 (([([x319, wr (x433 - 1), x433] : List (Int))] : List (List (Int))))) fun _ => some (Ctl.next ((l427 ++ (([([x319, wr (x433 - 1), x433] : List (Int))] : List (List (Int)))), wr (x433 + 1)))) else some (Ctl.out l427))
noncomputable def m_spec_l07Segments_s3 (l0 : List (List (Int × Int))) (s327 : (List (List (Int))) × Int) : Option (Ctl ((List (List (Int))) × Int) ((List (List (Int))))) :=
  match s327 with | (l313, x319) => (bif decide (x319 < (((l0).length : Int))) then Option.bind (geti l0 x319) fun x331 => Option.bind (m_spec_l01Corners x331) fun y339 => Option.bind (loopM (m_spec_l07Segments_s4 x319 y339) ((l313, 1))) fun (r438 : (List (List (Int)))) => (fun (l416 : List (List (Int))) => some (Ctl.next ((l416, wr (x319 + 1))))) r438 else some (Ctl.out l313))
noncomputable def m_spec_l07Segments (l0 : List (List (Int × Int))) : Option ((List (List (Int)))) :=
  Option.bind (loopM (m_spec_l07Segments_s3 l0) ((([] : List (List (Int))), 0))) fun (r324 : (List (List (Int)))) => (fun (l303 : List (List (Int))) => some l303) r324

def m_spec_l07Share (p0_0 : Int) (p0_1 : Int) (p1_0 : Int) (p1_1 : Int) (p2_0 : Int) (p2_1 : Int) (p3_0 : Int) (p3_1 : Int) : Option ((Bool)) :=
  Option.bind (m_spec_l00Min p0_0 p1_0) fun y92 => Option.bind (m_spec_l00Min p2_0 p3_0) fun y96 => Option.bind (m_spec_l00Max y92 y96) fun y100 => Option.bind (m_spec_l00Max p0_0 p1_0) fun y104 => Option.bind (m_spec_l00Max p2_0 p3_0) fun y108 => Option.bind (m_spec_l00Min y104 y108) fun y112 => (bif decide (y100 ≤ y112) then Option.bind (m_spec_l00Min p0_1 p1_1) fun y117 => Option.bind (m_spec_l00Min p2_1 p3_1) fun y121 => Option.bind (m_spec_l00Max y117 y121) fun y125 => Option.bind (m_spec_l00Max p0_1 p1_1) fun y129 => Option.bind (m_spec_l00Max p2_1 p3_1) fun y133 => Option.bind (m_spec_l00Min y129 y133) fun y137 => some (decide (y125 ≤ y137)) else some false)

noncomputable def m_spec_l07Lists_s1 (l0 : List (List (Int))) (p1 : Int) (p2 : Int) (s215 : Int) : Option (Ctl (Int) (Sum (Unit) ((Bool)))) :=
  (fun (x209 : Int) => (bif decide (x209 < (((l0).length : Int))) then Option.bind (geti l0 x209) fun x219 => (bif (((x219).length : Int)) != p2 then some (Ctl.out (Sum.inr false)) else Option.bind (geti x219 0) fun x261 => Option.bind (m_spec_l00In x261 0 (wr (p1 - 1))) fun y263 => (bif !y263 then some (Ctl.out (Sum.inr false)) else Option.bind (geti x219 1) fun x269 => Option.bind (geti x219 0) fun x271 => Option.bind (m_spec_l00In x269 (wr (x271 + 1)) (wr (p1 - 1))) fun y273 => (bif !y273 then some (Ctl.out (Sum.inr false)) else (bif p2 == 3 then Option.bind (geti x219 2) fun x280 => Option.bind (m_spec_l00In x280 0 1000) fun y282 => (bif !y282 then some (Ctl.out (Sum.inr false)) else (bif decide (x209 > 0) then Option.bind (geti l0 (wr (x209 - 1))) fun x289 => Option.bind (m_spec_l03Less x289 x219) fun y297 => (bif !y297 then some (Ctl.out (Sum.inr false)) else some (Ctl.next (wr (x209 + 1)))) else some (Ctl.next (wr (x209 + 1))))) else (bif decide (x209 > 0) then Option.bind (geti l0 (wr (x209 - 1))) fun x304 => Option.bind (m_spec_l03Less x304 x219) fun y312 => (bif !y312 then some (Ctl.out (Sum.inr false)) else some (Ctl.next (wr (x209 + 1)))) else some (Ctl.next (wr (x209 + 1)))))))) else some (Ctl.out (Sum.inl (()))))) s215
noncomputable def m_spec_l07Lists (l0 : List (List (Int))) (p1 : Int) (p2 : Int) : Option ((Bool)) :=
  Option.bind (loopM (m_spec_l07Lists_s1 l0 p1 p2) 0) fun (r212 : Sum (Unit) ((Bool))) => match r212 with | Sum.inl q319 => (some (decide ((((l0).length : Int)) ≤ 30))) | Sum.inr v318 => some v318

noncomputable def m_spec_l07Is_bimplWiring_s1 (l0_3 : List (Int)) (s71 : Int) : Option (Ctl (Int) (Sum (Unit) ((Bool)))) :=
  (fun (x62 : Int) => (bif decide (x62 < (((l0_3).length : Int))) then Option.bind (geti l0_3 x62) fun x75 => Option.bind (m_spec_l00In x75 ((-1)) 1) fun y77 => (bif !y77 then some (Ctl.out (Sum.inr false)) else some (Ctl.next (wr (x62 + 1)))) else some (Ctl.out (Sum.inl (()))))) s71
noncomputable def m_spec_l07Is_bimplWiring (q0_0 : Int) (l0_1 : List (List (Int))) (l0_2 : List (List (Int))) (l0_3 : List (Int)) : Option ((Bool)) :=
  Option.bind (m_spec_l00In q0_0 0 14) fun y22 => (bif !y22 then some false else (bif (((l0_3).length : Int)) != q0_0 then some false else Option.bind (loopM (m_spec_l07Is_bimplWiring_s1 l0_3) 0) fun (r68 : Sum (Unit) ((Bool))) => match r68 with | Sum.inl q114 => (Option.bind (m_spec_l07Lists l0_1 q0_0 2) fun y104 => (bif y104 then Option.bind (m_spec_l07Lists l0_2 q0_0 3) fun y109 => some y109 else some false)) | Sum.inr v113 => some v113))

noncomputable def m_spec_WiringOf_s5 (y16 : (List (List (Int)))) (l166 : List (List (Int × Int))) (x6924 : Int) (x7008 : List (Int)) (s9235 : Int × (List (List (Int))) × (List (List (Int)))) : Option (Ctl (Int × (List (List (Int))) × (List (List (Int)))) ((List (List (Int))) × (List (List (Int))))) :=
  match s9235 with | (x9195, l9196, l9202) => (bif decide (x9195 < (((y16).length : Int))) then Option.bind (Option.bind (geti y16 x9195) fun x9782 => Option.bind (Option.bind (geti x7008 0) fun x9957 => Option.bind (geti x9782 0) fun x9959 => (bif x9957 == x9959 then Option.bind (geti x7008 2) fun x9962 => Option.bind (geti x9782 1) fun x9964 => (bif x9962 == x9964 then Option.bind (apC l9202 (([([x6924, x9195, 1] : List (Int))] : List (List (Int))))) fun _ => some (l9202 ++ (([([x6924, x9195, 1] : List (Int))] : List (List (Int))))) else some l9202) else some l9202)) fun (s9920 : (List (List (Int)))) => (fun (l9895 : List (List (Int))) => Option.bind (geti x7008 0) fun x10129 => Option.bind (geti x9782 0) fun x10131 => (bif x10129 != x10131 then Option.bind (geti x7008 0) fun x10134 => Option.bind (geti l166 x10134) fun x10136 => Option.bind (geti x7008 1) fun x10146 => Option.bind (geti x10136 x10146) fun x10148 => Option.bind (geti x7008 0) fun x10150 => Option.bind (geti l166 x10150) fun x10152 => Option.bind (geti x7008 2) fun x10162 => Option.bind (geti x10152 x10162) fun x10164 => Option.bind (geti x9782 0) fun x10166 => Option.bind (geti l166 x10166) fun x10168 => Option.bind (geti x9782 1) fun x10178 => Option.bind (geti x10168 x10178) fun x10180 => Option.bind (geti x9782 0) fun x10182 => Option.bind (geti l166 x10182) fun x10184 => Option.bind (geti x9782 2) fun x10194 => Option.bind (geti x10184 x10194) fun x10196 => Option.bind (m_spec_l07Share x10148.1 x10148.2 x10164.1 x10164.2 x10180.1 x10180.2 x10196.1 x10196.2) fun y10198 => (bif y10198 then Option.bind (apC l9196 (([([x6924, x9195] : List (Int))] : List (List (Int))))) fun _ => some ((l9196 ++ (([([x6924, x9195] : List (Int))] : List (List (Int)))), l9895)) else some ((l9196, l9895))) else some ((l9196, l9895)))) s9920) fun (s9780 : (List (List (Int))) × (List (List (Int)))) => match s9780 with | (l9744, l9750) => some (Ctl.next ((wr (x9195 + 1), l9744, l9750))) else some (Ctl.out ((l9196, l9202))))
noncomputable def m_spec_WiringOf_s4 (y16 : (List (List (Int)))) (l166 : List (List (Int × Int))) (s6971 : Int × (List (List (Int))) × (List (List (Int))) × (List (Int))) : Option (Ctl (Int × (List (List (Int))) × (List (List (Int))) × (List (Int))) ((List (List (Int))) × (List (List (Int))) × (List (Int)))) :=
  match s6971 with | (x6924, l6925, l6931, l6937) => (bif decide (x6924 < (((y16).length : Int))) then Option.bind (apC l6937 (([(-1)] : List (Int)))) fun _ => Option.bind (geti y16 x6924) fun x7008 => Option.bind (loopM (m_spec_WiringOf_s5 y16 l166 x6924 x7008) ((wr (x6924 + 1), l6925, l6931))) fun (r9232 : (List (List (Int))) × (List (List (Int)))) => match r9232 with | (l9161, l9167) => some (Ctl.next ((wr (x6924 + 1), l9161, l9167, l6937 ++ (([(-1)] : List (Int)))))) else some (Ctl.out ((l6925, l6931, l6937))))
noncomputable def m_spec_WiringOf_s1 (l0 : List (List (Int × Int))) (s202 : (List (List (Int × Int))) × Int) : Option (Ctl ((List (List (Int × Int))) × Int) ((List (List (Int × Int))))) :=
  match s202 with | (l182, x188) => (bif decide (x188 < (((l0).length : Int))) then Option.bind (geti l0 x188) fun x206 => Option.bind (m_spec_l01Corners x206) fun y214 => Option.bind (apC l182 (([y214] : List (List (Int × Int))))) fun _ => some (Ctl.next ((l182 ++ (([y214] : List (List (Int × Int)))), wr (x188 + 1)))) else some (Ctl.out l182))
noncomputable def m_spec_WiringOf (l0 : List (List (Int × Int))) : Option ((Int × (List (List (Int))) × (List (List (Int))) × (List (Int))) × (Bool)) :=
  Option.bind (m_spec_l07Paths l0) fun y8 => (bif !y8 then some (((0, [], [], []), false)) else Option.bind (m_spec_l07Segments l0) fun y16 => Option.bind (loopM (m_spec_WiringOf_s1 l0) ((([] : List (List (Int × Int))), 0))) fun (r199 : (List (List (Int × Int)))) => (fun (l166 : List (List (Int × Int))) => Option.bind (loopM (m_spec_WiringOf_s4 y16 l166) ((0, ([] : List (List (Int))), ([] : List (List (Int))), ([] : List (Int))))) fun (r6968 : (List (List (Int))) × (List (List (Int))) × (List (Int))) => match r6968 with | (l6888, l6894, l6900) => Option.bind (m_spec_l07Is_bimplWiring (((y16).length : Int)) l6888 l6894 l6900) fun y10288 => (bif !y10288 then some (((0, [], [], []), false)) else some (((((y16).length : Int), l6888, l6894, l6900), true)))) r199)

noncomputable def m_laws_toPointSS_s1 (l0 : List (List (Int × Int))) (s112 : (List (List (Int × Int))) × Int) : Option (Ctl ((List (List (Int × Int))) × Int) ((List (List (Int × Int))))) :=
  match s112 with | (l98, x104) => (bif decide (x104 < (((l0).length : Int))) then Option.bind (geti l0 x104) fun x116 => Option.bind (m_laws_toPointS x116) fun y124 => Option.bind (geti l98 x104) fun x136 => some (Ctl.next ((l98.set (Int.toNat x104) y124, wr (x104 + 1)))) else some (Ctl.out l98))
noncomputable def m_laws_toPointSS (l0 : List (List (Int × Int))) : Option ((List (List (Int × Int)))) :=
  Option.bind (mkC (((l0).length : Int))) fun _ => Option.bind (loopM (m_laws_toPointSS_s1 l0) ((List.replicate (Int.toNat (((l0).length : Int))) ([] : List (Int × Int)), 0))) fun (r109 : (List (List (Int × Int)))) => (fun (l88 : List (List (Int × Int))) => some l88) r109

noncomputable def m_impl_pathsOk_1 (l0 : List (Int × Int)) : Option ((Bool)) :=
  (bif decide ((((l0).length : Int)) < 2) then some true else Option.bind (m_impl_IsPath l0) fun y3 => some (!y3))

noncomputable def m_slices_IndexFunc_impl_Point_impl_Point_impl_pathsOk_1_s1 (l0 : List (List (Int × Int))) (s44 : Int) : Option (Ctl (Int) (Sum (Unit) ((Int)))) :=
  (fun (x38 : Int) => (bif decide (x38 < (((l0).length : Int))) then Option.bind (geti l0 x38) fun x48 => Option.bind (m_impl_pathsOk_1 x48) fun y56 => (bif y56 then some (Ctl.out (Sum.inr x38)) else some (Ctl.next (wr (x38 + 1)))) else some (Ctl.out (Sum.inl (()))))) s44
noncomputable def m_slices_IndexFunc_impl_Point_impl_Point_impl_pathsOk_1 (l0 : List (List (Int × Int))) : Option ((Int)) :=
  Option.bind (loopM (m_slices_IndexFunc_impl_Point_impl_Point_impl_pathsOk_1_s1 l0) 0) fun (r41 : Sum (Unit) ((Int))) => match r41 with | Sum.inl q63 => (some ((-1))) | Sum.inr v62 => some v62

noncomputable def m_slices_ContainsFunc_impl_Point_impl_Point_impl_pathsOk_1 (l0 : List (List (Int × Int))) : Option ((Bool)) :=
  Option.bind (m_slices_IndexFunc_impl_Point_impl_Point_impl_pathsOk_1 l0) fun y2 => some (decide (y2 ≥ 0))

noncomputable def m_impl_pathsOk (l0 : List (List (Int × Int))) : Option ((Bool)) :=
  (bif decide ((((l0).length : Int)) ≤ 6) then Option.bind (m_slices_ContainsFunc_impl_Point_impl_Point_impl_pathsOk_1 l0) fun y3 => some (!y3) else some false)

noncomputable def m_impl_segments_s4 (x391 : Int) (x403 : List (Int × Int)) (s534 : (List (List (Int))) × Int) : Option (Ctl ((List (List (Int))) × Int) ((List (List (Int))))) :=
  match s534 with | (l519, x525) => Option.bind (m_impl_corners x403) fun y537 => (bif decide (x525 < (((y537).length : Int))) then Option.bind (apC l519 (([([x391, wr (x525 - 1), x525] : List (Int))] : List (List (Int))))) fun _ => some (Ctl.next ((l519 ++ (([([x391, wr (x525 - 1), x525] : List (Int))] : List (List (Int)))), wr (x525 + 1)))) else some (Ctl.out l519))
noncomputable def m_impl_segments_s3 (l0 : List (List (Int × Int))) (s399 : (List (List (Int))) × Int) : Option (Ctl ((List (List (Int))) × Int) ((List (List (Int))))) :=
  match s399 with | (l385, x391) => (bif decide (x391 < (((l0).length : Int))) then Option.bind (geti l0 x391) fun x403 => Option.bind (loopM (m_impl_segments_s4 x391 x403) ((l385, 1))) fun (r531 : (List (List (Int)))) => (fun (l508 : List (List (Int))) => some (Ctl.next ((l508, wr (x391 + 1))))) r531 else some (Ctl.out l385))
noncomputable def m_impl_segments (l0 : List (List (Int × Int))) : Option ((List (List (Int)))) :=
  Option.bind (loopM (m_impl_segments_s3 l0) ((([] : List (List (Int))), 0))) fun (r396 : (List (List (Int)))) => (fun (l375 : List (List (Int))) => some l375) r396

noncomputable def m_impl_touch (l0 : List (Int × Int)) (l1 : List (Int × Int)) : Option ((Bool)) :=
  Option.bind (m_impl_box l0) fun y3 => Option.bind (m_impl_box l1) fun y26 => (bif decide (y3.1.1 ≤ y26.2.1) then (bif decide (y26.1.1 ≤ y3.2.1) then (bif decide (y3.1.2 ≤ y26.2.2) then some (decide (y26.1.2 ≤ y3.2.2)) else some false) else some false) else some false)

def m_impl_ValidWiring_1 (l0 : List (Int)) : Option ((Bool)) :=
  Option.bind (geti l0 2) fun x2 => Option.bind (m_impl_in x2 0 1000) fun y4 => some (!y4)

def m_impl_ValidWiring_2 (p0 : Int) : Option ((Bool)) :=
  Option.bind (m_impl_in p0 ((-1)) 1) fun y1 => some (!y1)

noncomputable def m_impl_Wiring_pairsOk_bimplWiring_s1 (q0_0 : Int) (l1 : List (List (Int))) (p2 : Int) (s197 : Int) : Option (Ctl (Int) (Sum (Unit) ((Bool)))) :=
  (fun (x187 : Int) => (bif decide (x187 < (((l1).length : Int))) then Option.bind (geti l1 x187) fun x201 => (bif (((x201).length : Int)) != p2 then some (Ctl.out (Sum.inr false)) else Option.bind (geti x201 0) fun x252 => (bif decide (x252 < 0) then some (Ctl.out (Sum.inr false)) else Option.bind (geti x201 0) fun x256 => Option.bind (geti x201 1) fun x258 => (bif decide (x256 ≥ x258) then some (Ctl.out (Sum.inr false)) else Option.bind (geti x201 1) fun x262 => (bif decide (x262 ≥ q0_0) then some (Ctl.out (Sum.inr false)) else (bif decide (x187 > 0) then Option.bind (geti l1 (wr (x187 - 1))) fun x267 => Option.bind (m_slices_Compare_int64_int64 x267 x201) fun y275 => (bif decide (y275 ≥ 0) then some (Ctl.out (Sum.inr false)) else some (Ctl.next (wr (x187 + 1)))) else some (Ctl.next (wr (x187 + 1)))))))) else some (Ctl.out (Sum.inl (()))))) s197
noncomputable def m_impl_Wiring_pairsOk_bimplWiring (q0_0 : Int) (l0_1 : List (List (Int))) (l0_2 : List (List (Int))) (l0_3 : List (Int)) (l1 : List (List (Int))) (p2 : Int) : Option ((Bool)) :=
  Option.bind (loopM (m_impl_Wiring_pairsOk_bimplWiring_s1 q0_0 l1 p2) 0) fun (r194 : Sum (Unit) ((Bool))) => match r194 with | Sum.inl q284 => (some (decide ((((l1).length : Int)) ≤ 30))) | Sum.inr v283 => some v283

def m_slices_IndexFunc_int64_int64_impl_ValidWiring_1_s1 (l0 : List (List (Int))) (s44 : Int) : Option (Ctl (Int) (Sum (Unit) ((Int)))) :=
  (fun (x38 : Int) => (bif decide (x38 < (((l0).length : Int))) then Option.bind (geti l0 x38) fun x48 => Option.bind (m_impl_ValidWiring_1 x48) fun y56 => (bif y56 then some (Ctl.out (Sum.inr x38)) else some (Ctl.next (wr (x38 + 1)))) else some (Ctl.out (Sum.inl (()))))) s44
noncomputable def m_slices_IndexFunc_int64_int64_impl_ValidWiring_1 (l0 : List (List (Int))) : Option ((Int)) :=
  Option.bind (loopM (m_slices_IndexFunc_int64_int64_impl_ValidWiring_1_s1 l0) 0) fun (r41 : Sum (Unit) ((Int))) => match r41 with | Sum.inl q63 => (some ((-1))) | Sum.inr v62 => some v62

noncomputable def m_slices_ContainsFunc_int64_int64_impl_ValidWiring_1 (l0 : List (List (Int))) : Option ((Bool)) :=
  Option.bind (m_slices_IndexFunc_int64_int64_impl_ValidWiring_1 l0) fun y2 => some (decide (y2 ≥ 0))

def m_slices_IndexFunc_int64_int64_impl_ValidWiring_2_s1 (l0 : List (Int)) (s32 : Int) : Option (Ctl (Int) (Sum (Unit) ((Int)))) :=
  (fun (x26 : Int) => (bif decide (x26 < (((l0).length : Int))) then Option.bind (geti l0 x26) fun x36 => Option.bind (m_impl_ValidWiring_2 x36) fun y38 => (bif y38 then some (Ctl.out (Sum.inr x26)) else some (Ctl.next (wr (x26 + 1)))) else some (Ctl.out (Sum.inl (()))))) s32
noncomputable def m_slices_IndexFunc_int64_int64_impl_ValidWiring_2 (l0 : List (Int)) : Option ((Int)) :=
  Option.bind (loopM (m_slices_IndexFunc_int64_int64_impl_ValidWiring_2_s1 l0) 0) fun (r29 : Sum (Unit) ((Int))) => match r29 with | Sum.inl q45 => (some ((-1))) | Sum.inr v44 => some v44

noncomputable def m_slices_ContainsFunc_int64_int64_impl_ValidWiring_2 (l0 : List (Int)) : Option ((Bool)) :=
  Option.bind (m_slices_IndexFunc_int64_int64_impl_ValidWiring_2 l0) fun y2 => some (decide (y2 ≥ 0))

noncomputable def m_impl_ValidWiring (p0_0 : Int) (l0_1 : List (List (Int))) (l0_2 : List (List (Int))) (l0_3 : List (Int)) : Option ((Bool)) :=
  Option.bind (m_impl_in p0_0 0 14) fun y10 => (bif !y10 then some false else (bif (((l0_3).length : Int)) != p0_0 then some false else Option.bind (m_impl_Wiring_pairsOk_bimplWiring p0_0 l0_1 l0_2 l0_3 l0_1 2) fun y18 => (bif !y18 then some false else Option.bind (m_impl_Wiring_pairsOk_bimplWiring p0_0 l0_1 l0_2 l0_3 l0_2 3) fun y24 => (bif !y24 then some false else Option.bind (m_slices_ContainsFunc_int64_int64_impl_ValidWiring_1 l0_2) fun y30 => (bif y30 then some false else Option.bind (m_slices_ContainsFunc_int64_int64_impl_ValidWiring_2 l0_3) fun y35 => some (!y35))))))

noncomputable def m_impl_WiringOf_1_bimplPoint (l0 : List (Int)) (l1_0 : List (List (Int × Int))) : Option ((List (Int × Int))) :=
  Option.bind (geti l0 0) fun x49 => Option.bind (geti l1_0 x49) fun x51 => Option.bind (geti l0 1) fun x59 => Option.bind (geti l0 2) fun x61 => Option.bind (m_impl_corners x51) fun y63 => Option.bind (slci y63 x59 (wr (x61 + 1))) fun _ => some (slc y63 x59 (wr (x61 + 1)))

noncomputable def m_impl_WiringOf_s4 (l0 : List (List (Int × Int))) (y23 : (List (List (Int)))) (x6653 : Int) (x6705 : List (Int)) (s8954 : Int × (List (List (Int))) × (List (List (Int)))) : Option (Ctl (Int × (List (List (Int))) × (List (List (Int)))) ((List (List (Int))) × (List (List (Int))))) :=
  match s8954 with | (x8913, l8914, l8920) => (bif decide (x8913 < (((y23).length : Int))) then Option.bind (Option.bind (geti y23 x8913) fun x9497 => Option.bind (Option.bind (geti x6705 0) fun x9794 => Option.bind (geti x9497 0) fun x9796 => (bif x9794 != x9796 then Option.bind (m_impl_WiringOf_1_bimplPoint x6705 l0) fun y9799 => Option.bind (m_impl_WiringOf_1_bimplPoint x9497 l0) fun y9818 => Option.bind (m_impl_touch y9799 y9818) fun y9837 => (bif y9837 then Option.bind (apC l8914 (([([x6653, x8913] : List (Int))] : List (List (Int))))) fun _ => some (l8914 ++ (([([x6653, x8913] : List (Int))] : List (List (Int))))) else some l8914) else some l8914)) fun (s9718 : (List (List (Int)))) => (fun (l9692 : List (List (Int))) => Option.bind (geti x6705 0) fun x9935 => Option.bind (geti x9497 0) fun x9937 => (bif x9935 == x9937 then (bif x8913 == (wr (x6653 + 1)) then Option.bind (apC l8920 (([([x6653, x8913, 1] : List (Int))] : List (List (Int))))) fun _ => some ((l9692, l8920 ++ (([([x6653, x8913, 1] : List (Int))] : List (List (Int)))))) else some ((l9692, l8920))) else some ((l9692, l8920)))) s9718) fun (s9495 : (List (List (Int))) × (List (List (Int)))) => match s9495 with | (l9458, l9464) => some (Ctl.next ((wr (x8913 + 1), l9458, l9464))) else some (Ctl.out ((l8914, l8920))))
noncomputable def m_impl_WiringOf_s3 (l0 : List (List (Int × Int))) (y23 : (List (List (Int)))) (s6701 : Int × (List (List (Int))) × (List (List (Int))) × (List (Int))) : Option (Ctl (Int × (List (List (Int))) × (List (List (Int))) × (List (Int))) ((List (List (Int))) × (List (List (Int))) × (List (Int)))) :=
  match s6701 with | (x6653, l6654, l6660, l6666) => (bif decide (x6653 < (((y23).length : Int))) then Option.bind (geti y23 x6653) fun x6705 => Option.bind (apC l6666 (([(-1)] : List (Int)))) fun _ => Option.bind (loopM (m_impl_WiringOf_s4 l0 y23 x6653 x6705) ((wr (x6653 + 1), l6654, l6660))) fun (r8951 : (List (List (Int))) × (List (List (Int)))) => match r8951 with | (l8878, l8884) => some (Ctl.next ((wr (x6653 + 1), l8878, l8884, l6666 ++ (([(-1)] : List (Int)))))) else some (Ctl.out ((l6654, l6660, l6666))))
noncomputable def m_impl_WiringOf (l0 : List (List (Int × Int))) : Option ((Int × (List (List (Int))) × (List (List (Int))) × (List (Int))) × (Bool)) :=
  Option.bind (m_impl_pathsOk l0) fun y15 => (bif !y15 then some (((0, [], [], []), false)) else Option.bind (m_impl_segments l0) fun y23 => (bif decide ((((y23).length : Int)) > 14) then some (((0, [], [], []), false)) else Option.bind (loopM (m_impl_WiringOf_s3 l0 y23) ((0, ([] : List (List (Int))), ([] : List (List (Int))), ([] : List (Int))))) fun (r6698 : (List (List (Int))) × (List (List (Int))) × (List (Int))) => match r6698 with | (l6617, l6623, l6629) => Option.bind (m_impl_ValidWiring (((y23).length : Int)) l6617 l6623 l6629) fun y9998 => (bif !y9998 then some (((0, [], [], []), false)) else some (((((y23).length : Int), l6617, l6623, l6629), true)))))

noncomputable def m_laws_eqWiring (p0_0 : Int) (l0_1 : List (List (Int))) (l0_2 : List (List (Int))) (l0_3 : List (Int)) (p1_0 : Int) (l1_1 : List (List (Int))) (l1_2 : List (List (Int))) (l1_3 : List (Int)) : Option ((Bool)) :=
  (bif p0_0 != p1_0 then some false else Option.bind (m_laws_eqInt64SS l0_1 l1_1) fun y21 => (bif !y21 then some false else Option.bind (m_laws_eqInt64SS l0_2 l1_2) fun y26 => (bif !y26 then some false else Option.bind (m_laws_eqInt64S l0_3 l1_3) fun y31 => (bif !y31 then some false else some true))))

noncomputable def m_laws_eqPointSS_s1 (l0 : List (List (Int × Int))) (l1 : List (List (Int × Int))) (s121 : Int) : Option (Ctl (Int) (Sum (Unit) ((Bool)))) :=
  (fun (x114 : Int) => (bif decide (x114 < (((l0).length : Int))) then Option.bind (geti l0 x114) fun x153 => Option.bind (geti l1 x114) fun x161 => Option.bind (m_laws_eqPointS x153 x161) fun y169 => (bif !y169 then some (Ctl.out (Sum.inr false)) else some (Ctl.next (wr (x114 + 1)))) else some (Ctl.out (Sum.inl (()))))) s121
noncomputable def m_laws_eqPointSS (l0 : List (List (Int × Int))) (l1 : List (List (Int × Int))) : Option ((Bool)) :=
  (bif (((l0).length : Int)) != (((l1).length : Int)) then some false else Option.bind (loopM (m_laws_eqPointSS_s1 l0 l1) 0) fun (r118 : Sum (Unit) ((Bool))) => match r118 with | Sum.inl q176 => (some true) | Sum.inr v175 => some v175)

noncomputable def m_laws_markPointSS_s1  (s70 : Int × Int × (List (List (Int × Int)))) : Option (Ctl (Int × Int × (List (List (Int × Int)))) (Int × (List (List (Int × Int))))) :=
  match s70 with | (x61, x62, l63) => (bif decide (x62 < (((l63).length : Int))) then Option.bind (geti l63 x62) fun x74 => Option.bind (m_laws_markPointS x74 x61) fun y86 => some (Ctl.next ((y86.1, wr (x62 + 1), l63.set (Int.toNat x62) y86.2))) else some (Ctl.out ((x61, l63))))
noncomputable def m_laws_markPointSS (l0 : List (List (Int × Int))) (p1 : Int) : Option ((Int) × (List (List (Int × Int)))) :=
  Option.bind (loopM (m_laws_markPointSS_s1) ((p1, 0, l0))) fun (r67 : Int × (List (List (Int × Int)))) => match r67 with | (x55, l56) => some ((x55, l56))

noncomputable def m_laws_markWiring (p0_0 : Int) (l0_1 : List (List (Int))) (l0_2 : List (List (Int))) (l0_3 : List (Int)) (p1 : Int) : Option ((Int) × (List (List (Int))) × (List (List (Int))) × (List (Int))) :=
  Option.bind (m_laws_markInt64SS l0_1 p1) fun y10 => Option.bind (m_laws_markInt64SS l0_2 y10.1) fun y17 => Option.bind (m_laws_markInt64S l0_3 y17.1) fun y24 => some ((y24.1, y10.2, y17.2, y24.2))

def m_laws_heldInt64S_s1 (l0 : List (Int)) (s27 : Int × Int) : Option (Ctl (Int × Int) (Sum (Int) ((Int)))) :=
  match s27 with | (x20, x21) => (bif decide (x21 < (((l0).length : Int))) then Option.bind (geti l0 x21) fun x31 => (bif x31 != x20 then some (Ctl.out (Sum.inr ((-1)))) else some (Ctl.next ((wr (x20 + 1), wr (x21 + 1))))) else some (Ctl.out (Sum.inl x20)))
noncomputable def m_laws_heldInt64S (l0 : List (Int)) (p1 : Int) : Option ((Int)) :=
  Option.bind (loopM (m_laws_heldInt64S_s1 l0) ((p1, 0))) fun (r24 : Sum (Int) ((Int))) => match r24 with | Sum.inl q36 => ((fun (x17 : Int) => some x17) q36) | Sum.inr v35 => some v35

noncomputable def m_laws_heldInt64SS_s1 (l0 : List (List (Int))) (s47 : Int × Int) : Option (Ctl (Int × Int) (Sum (Int) ((Int)))) :=
  match s47 with | (x40, x41) => (bif decide (x41 < (((l0).length : Int))) then Option.bind (geti l0 x41) fun x51 => Option.bind (m_laws_heldInt64S x51 x40) fun y59 => (bif decide (y59 < 0) then some (Ctl.out (Sum.inr ((-1)))) else some (Ctl.next ((y59, wr (x41 + 1))))) else some (Ctl.out (Sum.inl x40)))
noncomputable def m_laws_heldInt64SS (l0 : List (List (Int))) (p1 : Int) : Option ((Int)) :=
  Option.bind (loopM (m_laws_heldInt64SS_s1 l0) ((p1, 0))) fun (r44 : Sum (Int) ((Int))) => match r44 with | Sum.inl q66 => ((fun (x37 : Int) => some x37) q66) | Sum.inr v65 => some v65

noncomputable def m_laws_heldWiring (p0_0 : Int) (l0_1 : List (List (Int))) (l0_2 : List (List (Int))) (l0_3 : List (Int)) (p1 : Int) : Option ((Int)) :=
  Option.bind (m_laws_heldInt64SS l0_1 p1) fun y10 => (bif decide (y10 < 0) then some ((-1)) else Option.bind (m_laws_heldInt64SS l0_2 y10) fun y15 => (bif decide (y15 < 0) then some ((-1)) else Option.bind (m_laws_heldInt64S l0_3 y15) fun y20 => (bif decide (y20 < 0) then some ((-1)) else some y20)))

noncomputable def m_laws_FnExactWiringOf (l0 : List (List (Int × Int))) : Option ((Bool)) :=
  Option.bind (m_laws_szPointSS l0 1048576) fun y2 => (bif decide (y2 < 0) then some true else Option.bind (m_laws_toPointSS l0) fun y7 => Option.bind (m_spec_WiringOf y7) fun y18 => Option.bind (m_laws_toPointSS l0) fun y62 => Option.bind (m_impl_WiringOf y62) fun y78 => Option.bind (m_laws_eqWiring y78.1.1 y78.1.2.1 y78.1.2.2.1 y78.1.2.2.2 y18.1.1 y18.1.2.1 y18.1.2.2.1 y18.1.2.2.2) fun y143 => (bif !y143 then some false else (bif !(y78.2 == y18.2) then some false else Option.bind (m_laws_toPointSS l0) fun y149 => Option.bind (m_laws_eqPointSS y62 y149) fun y170 => (bif !y170 then some false else Option.bind (m_laws_markPointSS y62 1) fun y175 => (bif decide (y175.1 < 0) then some false else Option.bind (m_laws_eqWiring y78.1.1 y78.1.2.1 y78.1.2.2.1 y78.1.2.2.2 y18.1.1 y18.1.2.1 y18.1.2.2.1 y18.1.2.2.2) fun y183 => (bif !y183 then some false else (bif !(y78.2 == y18.2) then some false else Option.bind (m_laws_markWiring y78.1.1 y78.1.2.1 y78.1.2.2.1 y78.1.2.2.2 1) fun y189 => Option.bind (m_laws_heldWiring y78.1.1 y189.2.1 y189.2.2.1 y189.2.2.2 1) fun y200 => (bif decide (y200 < 0) then some false else (bif y200 != y189.1 then some false else Option.bind (m_laws_toPointSS l0) fun y206 => Option.bind (m_impl_WiringOf y206) fun y228 => Option.bind (m_laws_eqWiring y228.1.1 y228.1.2.1 y228.1.2.2.1 y228.1.2.2.2 y18.1.1 y18.1.2.1 y18.1.2.2.1 y18.1.2.2.2) fun y316 => (bif !y316 then some false else (bif !(y228.2 == y18.2) then some false else Option.bind (m_laws_heldWiring y78.1.1 y189.2.1 y189.2.2.1 y189.2.2.2 1) fun y324 => (bif decide (y324 < 0) then some false else (bif y324 != y189.1 then some false else some true)))))))))))))

end Go.Proofs.Ytgaecldkiijmpaa
