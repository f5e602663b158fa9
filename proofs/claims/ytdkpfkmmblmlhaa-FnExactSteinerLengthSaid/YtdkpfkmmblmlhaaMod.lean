/- Printed models: what each function reckons, in plain Lean. -/
import Derived.Test.YtdkpfkmmblmlhaaBit
set_option linter.unusedSimpArgs false
set_option linter.unusedVariables false
namespace Go.Proofs.Ytdkpfkmmblmlhaa
open Go.RowKit

def m_laws_szPointS (l0 : List (Int × Int)) (p1 : Int) : Option ((Int)) :=
  (bif decide ((wr (p1 - (((l0).length : Int)))) < 0) then some ((-1)) else some (wr (p1 - (((l0).length : Int)))))

def m_spec_l00In (p0 : Int) (p1 : Int) (p2 : Int) : Option ((Bool)) :=
  (bif decide (p0 ≥ p1) then some (decide (p0 ≤ p2)) else some false)

def m_spec_l01Point (p0_0 : Int) (p0_1 : Int) : Option ((Bool)) :=
  Option.bind (m_spec_l00In p0_0 0 99) fun y7 => (bif y7 then Option.bind (m_spec_l00In p0_1 0 99) fun y12 => some y12 else some false)

def m_spec_l00Max (p0 : Int) (p1 : Int) : Option ((Int)) :=
  (bif decide (p0 > p1) then some p0 else some p1)

def m_spec_l01Abs (p0 : Int) : Option ((Int)) :=
  Option.bind (m_spec_l00Max p0 (wr (0 - p0))) fun y1 => some y1

def m_spec_l01Far (p0_0 : Int) (p0_1 : Int) (p1_0 : Int) (p1_1 : Int) : Option ((Int)) :=
  Option.bind (m_spec_l01Abs (wr (p0_0 - p1_0))) fun y30 => Option.bind (m_spec_l01Abs (wr (p0_1 - p1_1))) fun y34 => some (wr (y30 + y34))

def m_spec_l01Index_s1 (l0 : List (Int × Int)) (p1_0 : Int) (p1_1 : Int) (s53 : Int) : Option (Ctl (Int) (Sum (Unit) ((Int)))) :=
  (fun (x46 : Int) => (bif decide (x46 < (((l0).length : Int))) then Option.bind (geti l0 x46) fun x67 => (bif x67.1 == p1_0 && x67.2 == p1_1 then some (Ctl.out (Sum.inr x46)) else some (Ctl.next (wr (x46 + 1)))) else some (Ctl.out (Sum.inl (()))))) s53
noncomputable def m_spec_l01Index (l0 : List (Int × Int)) (p1_0 : Int) (p1_1 : Int) : Option ((Int)) :=
  Option.bind (loopM (m_spec_l01Index_s1 l0 p1_0 p1_1) 0) fun (r50 : Sum (Unit) ((Int))) => match r50 with | Sum.inl q72 => (some ((-1))) | Sum.inr v71 => some v71

noncomputable def m_spec_l01Path_s1 (l0 : List (Int × Int)) (s170 : Int) : Option (Ctl (Int) (Sum (Unit) ((Bool)))) :=
  (fun (x164 : Int) => (bif decide (x164 < (((l0).length : Int))) then Option.bind (geti l0 x164) fun x212 => Option.bind (m_spec_l01Point x212.1 x212.2) fun y214 => (bif !y214 then some (Ctl.out (Sum.inr false)) else Option.bind (slci l0 0 x164) fun y220 => Option.bind (geti l0 x164) fun x229 => Option.bind (m_spec_l01Index y220 x229.1 x229.2) fun y231 => (bif decide (y231 ≥ 0) then some (Ctl.out (Sum.inr false)) else (bif decide (x164 > 0) then Option.bind (geti l0 (wr (x164 - 1))) fun x238 => Option.bind (geti l0 x164) fun x240 => Option.bind (m_spec_l01Far x238.1 x238.2 x240.1 x240.2) fun y242 => (bif y242 != 1 then some (Ctl.out (Sum.inr false)) else some (Ctl.next (wr (x164 + 1)))) else some (Ctl.next (wr (x164 + 1)))))) else some (Ctl.out (Sum.inl (()))))) s170
noncomputable def m_spec_l01Path (l0 : List (Int × Int)) : Option ((Bool)) :=
  (bif decide ((((l0).length : Int)) < 1) then some false else (bif decide ((((l0).length : Int)) > 576) then some false else Option.bind (loopM (m_spec_l01Path_s1 l0) 0) fun (r167 : Sum (Unit) ((Bool))) => match r167 with | Sum.inl q251 => (some true) | Sum.inr v250 => some v250))

noncomputable def m_spec_IsPath (l0 : List (Int × Int)) : Option ((Bool)) :=
  Option.bind (m_spec_l01Path l0) fun y2 => some y2

def m_laws_toPoint (p0_0 : Int) (p0_1 : Int) : Option ((Int × Int)) :=
  some ((p0_0, p0_1))

def m_laws_toPointS_s1 (l0 : List (Int × Int)) (s54 : Int × (List (Int × Int))) : Option (Ctl (Int × (List (Int × Int))) ((List (Int × Int)))) :=
  match s54 with | (x46, l47) => (bif decide (x46 < (((l0).length : Int))) then Option.bind (geti l0 x46) fun x58 => Option.bind (m_laws_toPoint x58.1 x58.2) fun y60 => Option.bind (geti l47 x46) fun x64 => some (Ctl.next ((wr (x46 + 1), l47.set (Int.toNat x46) ((y60.1, y60.2))))) else some (Ctl.out l47))
noncomputable def m_laws_toPointS (l0 : List (Int × Int)) : Option ((List (Int × Int))) :=
  Option.bind (mkC (((l0).length : Int))) fun _ => Option.bind (loopM (m_laws_toPointS_s1 l0) ((0, List.replicate (Int.toNat (((l0).length : Int))) (((0, 0) : Int × Int))))) fun (r51 : (List (Int × Int))) => (fun (l42 : List (Int × Int)) => some l42) r51

def m_impl_in (p0 : Int) (p1 : Int) (p2 : Int) : Option ((Bool)) :=
  (bif decide (p0 ≥ p1) then some (decide (p0 ≤ p2)) else some false)

def m_impl_IsPoint (p0_0 : Int) (p0_1 : Int) : Option ((Bool)) :=
  Option.bind (m_impl_in p0_0 0 99) fun y7 => (bif y7 then Option.bind (m_impl_in p0_1 0 99) fun y12 => some y12 else some false)

def m_impl_noPoint (p0_0 : Int) (p0_1 : Int) : Option ((Bool)) :=
  Option.bind (m_impl_IsPoint p0_0 p0_1) fun y7 => some (!y7)

def m_impl_size (p0 : Int) : Option ((Int)) :=
  some (if (wr (0 - p0)) > p0 then (wr (0 - p0)) else p0)

def m_impl_far (p0_0 : Int) (p0_1 : Int) (p1_0 : Int) (p1_1 : Int) : Option ((Int)) :=
  Option.bind (m_impl_size (wr (p0_0 - p1_0))) fun y30 => Option.bind (m_impl_size (wr (p0_1 - p1_1))) fun y34 => some (wr (y30 + y34))

def m_slices_Clone_impl_Point_impl_Point (l0 : List (Int × Int)) : Option ((List (Int × Int))) :=
  Option.bind (apC (([] : List (Int × Int))) l0) fun _ => some ((([] : List (Int × Int))) ++ l0)

def m_cmp_isNaN_int64 (p0 : Int) : Option ((Bool)) :=
  some (p0 != p0)

def m_cmp_Compare_int64 (p0 : Int) (p1 : Int) : Option ((Int)) :=
  Option.bind (m_cmp_isNaN_int64 p0) fun y1 => Option.bind (m_cmp_isNaN_int64 p1) fun y5 => (bif y1 then (bif y5 then some 0 else some ((-1))) else (bif y5 then some 1 else (bif decide (p0 < p1) then some ((-1)) else (bif decide (p0 > p1) then some 1 else some 0))))

def m_cmp_Or_int_s1 (l0 : List (Int)) (s24 : Int) : Option (Ctl (Int) (Sum (Unit) ((Int)))) :=
  (fun (x18 : Int) => (bif decide (x18 < (((l0).length : Int))) then Option.bind (geti l0 x18) fun x28 => (bif x28 != 0 then some (Ctl.out (Sum.inr x28)) else some (Ctl.next (wr (x18 + 1)))) else some (Ctl.out (Sum.inl (()))))) s24
noncomputable def m_cmp_Or_int (l0 : List (Int)) : Option ((Int)) :=
  Option.bind (loopM (m_cmp_Or_int_s1 l0) 0) fun (r21 : Sum (Unit) ((Int))) => match r21 with | Sum.inl q33 => (some 0) | Sum.inr v32 => some v32

noncomputable def m_impl_pointOrder (p0_0 : Int) (p0_1 : Int) (p1_0 : Int) (p1_1 : Int) : Option ((Int)) :=
  Option.bind (m_cmp_Compare_int64 p0_0 p1_0) fun y42 => Option.bind (m_cmp_Compare_int64 p0_1 p1_1) fun y46 => Option.bind (m_cmp_Or_int (([y42, y46] : List (Int)))) fun y58 => some y58

def m_slices_Compact_impl_Point_impl_Point_s4 (l0 : List (Int × Int)) (x542 : Int) (s731 : Int × Int × (List (Int × Int))) : Option (Ctl (Int × Int × (List (Int × Int))) (Int × (List (Int × Int)))) :=
  match s731 with | (x721, x722, l723) => (bif decide (x722 < (((slc l723 x542 (((l0).length : Int))).length : Int))) then Option.bind (Option.bind (geti (slc l723 x542 (((l0).length : Int))) x722) fun x783 => Option.bind (geti (slc l723 x542 (((l0).length : Int))) (wr (x722 - 1))) fun x785 => (bif !(x783.1 == x785.1 && x783.2 == x785.2) then Option.bind (geti (slc l723 x542 (((l0).length : Int))) x722) fun x788 => Option.bind (geti l723 x721) fun x790 => some ((wr (x721 + 1), l723.set (Int.toNat x721) ((x788.1, x788.2)))) else some ((x721, l723)))) fun (s769 : Int × (List (Int × Int))) => match s769 with | (x763, l764) => some (Ctl.next ((x763, wr (x722 + 1), l764))) else some (Ctl.out ((x721, l723))))
noncomputable def m_slices_Compact_impl_Point_impl_Point_s3 (l0 : List (Int × Int)) (s548 : Int) : Option (Ctl (Int) (Sum (Unit) ((List (Int × Int))))) :=
  (fun (x542 : Int) => (bif decide (x542 < (((l0).length : Int))) then Option.bind (geti l0 x542) fun x562 => Option.bind (geti l0 (wr (x542 - 1))) fun x564 => (bif x562.1 == x564.1 && x562.2 == x564.2 then Option.bind (slci l0 x542 (((l0).length : Int))) fun _ => Option.bind (loopM (m_slices_Compact_impl_Point_impl_Point_s4 l0 x542) ((x542, 1, l0))) fun (r728 : Int × (List (Int × Int))) => match r728 with | (x715, l716) => Option.bind (slci l716 x715 (((l716).length : Int))) fun _ => Option.bind (slci (clr ((0, 0) : Int × Int) l716 x715) 0 x715) fun _ => some (Ctl.out (Sum.inr ((clr ((0, 0) : Int × Int) l716 x715).take (Int.toNat x715)))) else some (Ctl.next (wr (x542 + 1)))) else some (Ctl.out (Sum.inl (()))))) s548
noncomputable def m_slices_Compact_impl_Point_impl_Point (l0 : List (Int × Int)) : Option ((List (Int × Int))) :=
  (bif decide ((((l0).length : Int)) < 2) then some l0 else Option.bind (loopM (m_slices_Compact_impl_Point_impl_Point_s3 l0) 1) fun (r545 : Sum (Unit) ((List (Int × Int)))) => match r545 with | Sum.inl q818 => (some l0) | Sum.inr v817 => some v817)

noncomputable def m_impl_sorted (l0 : List (Int × Int)) : Option ((List (Int × Int))) :=
  Option.bind (m_slices_Clone_impl_Point_impl_Point l0) fun y2 => Option.bind (m_slices_SortFunc_impl_Point_impl_Point_impl_pointOrder y2) fun y13 => Option.bind (m_slices_Compact_impl_Point_impl_Point y13) fun y19 => some y19

def m_slices_IndexFunc_impl_Point_impl_Point_impl_noPoint_s1 (l0 : List (Int × Int)) (s32 : Int) : Option (Ctl (Int) (Sum (Unit) ((Int)))) :=
  (fun (x26 : Int) => (bif decide (x26 < (((l0).length : Int))) then Option.bind (geti l0 x26) fun x36 => Option.bind (m_impl_noPoint x36.1 x36.2) fun y38 => (bif y38 then some (Ctl.out (Sum.inr x26)) else some (Ctl.next (wr (x26 + 1)))) else some (Ctl.out (Sum.inl (()))))) s32
noncomputable def m_slices_IndexFunc_impl_Point_impl_Point_impl_noPoint (l0 : List (Int × Int)) : Option ((Int)) :=
  Option.bind (loopM (m_slices_IndexFunc_impl_Point_impl_Point_impl_noPoint_s1 l0) 0) fun (r29 : Sum (Unit) ((Int))) => match r29 with | Sum.inl q45 => (some ((-1))) | Sum.inr v44 => some v44

noncomputable def m_slices_ContainsFunc_impl_Point_impl_Point_impl_noPoint (l0 : List (Int × Int)) : Option ((Bool)) :=
  Option.bind (m_slices_IndexFunc_impl_Point_impl_Point_impl_noPoint l0) fun y2 => some (decide (y2 ≥ 0))

noncomputable def m_impl_IsPath_s1 (l0 : List (Int × Int)) (s72 : Int) : Option (Ctl (Int) (Sum (Unit) ((Bool)))) :=
  (fun (x66 : Int) => (bif decide (x66 < (((l0).length : Int))) then Option.bind (geti l0 (wr (x66 - 1))) fun x90 => Option.bind (geti l0 x66) fun x92 => Option.bind (m_impl_far x90.1 x90.2 x92.1 x92.2) fun y94 => (bif y94 != 1 then some (Ctl.out (Sum.inr false)) else some (Ctl.next (wr (x66 + 1)))) else some (Ctl.out (Sum.inl (()))))) s72
noncomputable def m_impl_IsPath (l0 : List (Int × Int)) : Option ((Bool)) :=
  (bif decide ((((l0).length : Int)) < 1) then some false else (bif decide ((((l0).length : Int)) > 576) then some false else Option.bind (m_slices_ContainsFunc_impl_Point_impl_Point_impl_noPoint l0) fun y4 => (bif y4 then some false else Option.bind (loopM (m_impl_IsPath_s1 l0) 1) fun (r69 : Sum (Unit) ((Bool))) => match r69 with | Sum.inl q112 => (Option.bind (m_impl_sorted l0) fun y100 => some ((((y100).length : Int)) == (((l0).length : Int)))) | Sum.inr v111 => some v111)))

def m_laws_eqPoint (p0_0 : Int) (p0_1 : Int) (p1_0 : Int) (p1_1 : Int) : Option ((Bool)) :=
  (bif p0_0 != p1_0 then some false else (bif p0_1 != p1_1 then some false else some true))

def m_laws_eqPointS_s1 (l0 : List (Int × Int)) (l1 : List (Int × Int)) (s73 : Int) : Option (Ctl (Int) (Sum (Unit) ((Bool)))) :=
  (fun (x66 : Int) => (bif decide (x66 < (((l0).length : Int))) then Option.bind (geti l0 x66) fun x93 => Option.bind (geti l1 x66) fun x95 => Option.bind (m_laws_eqPoint x93.1 x93.2 x95.1 x95.2) fun y97 => (bif !y97 then some (Ctl.out (Sum.inr false)) else some (Ctl.next (wr (x66 + 1)))) else some (Ctl.out (Sum.inl (()))))) s73
noncomputable def m_laws_eqPointS (l0 : List (Int × Int)) (l1 : List (Int × Int)) : Option ((Bool)) :=
  (bif (((l0).length : Int)) != (((l1).length : Int)) then some false else Option.bind (loopM (m_laws_eqPointS_s1 l0 l1) 0) fun (r70 : Sum (Unit) ((Bool))) => match r70 with | Sum.inl q104 => (some true) | Sum.inr v103 => some v103)

noncomputable def m_laws_FnExactIsPath (l0 : List (Int × Int)) : Option ((Bool)) :=
  Option.bind (m_laws_szPointS l0 1048576) fun y2 => (bif decide (y2 < 0) then some true else Option.bind (m_laws_toPointS l0) fun y7 => Option.bind (m_spec_IsPath y7) fun y18 => Option.bind (m_laws_toPointS l0) fun y22 => Option.bind (m_impl_IsPath y22) fun y34 => (bif !(y34 == y18) then some false else Option.bind (m_laws_toPointS l0) fun y39 => Option.bind (m_laws_eqPointS y22 y39) fun y52 => (bif !y52 then some false else some true)))

noncomputable def m_spec_LengthOf (l0 : List (Int × Int)) : Option ((Int) × (Bool)) :=
  Option.bind (m_spec_l01Path l0) fun y2 => (bif !y2 then some ((0, false)) else some ((wr ((((l0).length : Int)) - 1), true)))

noncomputable def m_impl_LengthOf (l0 : List (Int × Int)) : Option ((Int) × (Bool)) :=
  Option.bind (m_impl_IsPath l0) fun y2 => (bif !y2 then some ((0, false)) else some ((wr ((((l0).length : Int)) - 1), true)))

noncomputable def m_laws_FnExactLengthOf (l0 : List (Int × Int)) : Option ((Bool)) :=
  Option.bind (m_laws_szPointS l0 1048576) fun y2 => (bif decide (y2 < 0) then some true else Option.bind (m_laws_toPointS l0) fun y7 => Option.bind (m_spec_LengthOf y7) fun y18 => Option.bind (m_laws_toPointS l0) fun y22 => Option.bind (m_impl_LengthOf y22) fun y34 => (bif y34.1 != y18.1 then some false else (bif !(y34.2 == y18.2) then some false else Option.bind (m_laws_toPointS l0) fun y41 => Option.bind (m_laws_eqPointS y22 y41) fun y54 => (bif !y54 then some false else some true))))

noncomputable def m_spec_l05Is_s1 (l0 : List (Int × Int)) (s126 : Int) : Option (Ctl (Int) (Sum (Unit) ((Bool)))) :=
  (fun (x120 : Int) => (bif decide (x120 < (((l0).length : Int))) then Option.bind (geti l0 x120) fun x158 => Option.bind (m_spec_l01Point x158.1 x158.2) fun y160 => (bif !y160 then some (Ctl.out (Sum.inr false)) else Option.bind (slci l0 0 x120) fun y166 => Option.bind (geti l0 x120) fun x175 => Option.bind (m_spec_l01Index y166 x175.1 x175.2) fun y177 => (bif decide (y177 ≥ 0) then some (Ctl.out (Sum.inr false)) else some (Ctl.next (wr (x120 + 1))))) else some (Ctl.out (Sum.inl (()))))) s126
noncomputable def m_spec_l05Is (l0 : List (Int × Int)) : Option ((Bool)) :=
  (bif decide ((((l0).length : Int)) < 1) then some false else (bif decide ((((l0).length : Int)) > 20) then some false else Option.bind (loopM (m_spec_l05Is_s1 l0) 0) fun (r123 : Sum (Unit) ((Bool))) => match r123 with | Sum.inl q185 => (some true) | Sum.inr v184 => some v184))

noncomputable def m_spec_l05Star_s1 (l0 : List (Int × Int)) (p1_0 : Int) (p1_1 : Int) (s70 : Int × Int) : Option (Ctl (Int × Int) (Int)) :=
  match s70 with | (x62, x63) => (bif decide (x63 < (((l0).length : Int))) then Option.bind (geti l0 x63) fun x88 => Option.bind (m_spec_l01Far x88.1 x88.2 p1_0 p1_1) fun y90 => some (Ctl.next ((wr (x62 + y90), wr (x63 + 1)))) else some (Ctl.out x62))
noncomputable def m_spec_l05Star (l0 : List (Int × Int)) (p1_0 : Int) (p1_1 : Int) : Option ((Int)) :=
  Option.bind (loopM (m_spec_l05Star_s1 l0 p1_0 p1_1) ((0, 0))) fun (r67 : Int) => (fun (x59 : Int) => some x59) r67

noncomputable def m_spec_StarLength (l0 : List (Int × Int)) (p1_0 : Int) (p1_1 : Int) : Option ((Int) × (Bool)) :=
  Option.bind (m_spec_l05Is l0) fun y8 => (bif !y8 then some ((0, false)) else Option.bind (m_spec_l01Point p1_0 p1_1) fun y13 => (bif !y13 then some ((0, false)) else Option.bind (m_spec_l05Star l0 p1_0 p1_1) fun y18 => some ((y18, true))))

noncomputable def m_impl_pinsOk (l0 : List (Int × Int)) (p1 : Int) : Option ((Bool)) :=
  (bif decide ((((l0).length : Int)) ≥ 1) then (bif decide ((((l0).length : Int)) ≤ p1) then Option.bind (m_slices_ContainsFunc_impl_Point_impl_Point_impl_noPoint l0) fun y4 => (bif !y4 then Option.bind (m_impl_sorted l0) fun y9 => some ((((y9).length : Int)) == (((l0).length : Int))) else some false) else some false) else some false)

noncomputable def m_impl_ArePins (l0 : List (Int × Int)) : Option ((Bool)) :=
  Option.bind (m_impl_pinsOk l0 20) fun y2 => some y2

def m_impl_star_s1 (l0 : List (Int × Int)) (p1_0 : Int) (p1_1 : Int) (s62 : Int × Int) : Option (Ctl (Int × Int) (Int)) :=
  match s62 with | (x54, x55) => (bif decide (x55 < (((l0).length : Int))) then Option.bind (geti l0 x55) fun x66 => Option.bind (m_impl_far x66.1 x66.2 p1_0 p1_1) fun y78 => some (Ctl.next ((wr (x54 + y78), wr (x55 + 1)))) else some (Ctl.out x54))
noncomputable def m_impl_star (l0 : List (Int × Int)) (p1_0 : Int) (p1_1 : Int) : Option ((Int)) :=
  Option.bind (loopM (m_impl_star_s1 l0 p1_0 p1_1) ((0, 0))) fun (r59 : Int) => (fun (x51 : Int) => some x51) r59

noncomputable def m_impl_StarLength (l0 : List (Int × Int)) (p1_0 : Int) (p1_1 : Int) : Option ((Int) × (Bool)) :=
  Option.bind (m_impl_ArePins l0) fun y8 => (bif !y8 then some ((0, false)) else Option.bind (m_impl_IsPoint p1_0 p1_1) fun y13 => (bif !y13 then some ((0, false)) else Option.bind (m_impl_star l0 p1_0 p1_1) fun y18 => some ((y18, true))))

noncomputable def m_laws_FnExactStarLength (l0 : List (Int × Int)) (p1_0 : Int) (p1_1 : Int) : Option ((Bool)) :=
  Option.bind (m_laws_szPointS l0 1048576) fun y8 => (bif decide (y8 < 0) then some true else Option.bind (m_laws_toPointS l0) fun y41 => Option.bind (m_laws_toPoint p1_0 p1_1) fun y53 => Option.bind (m_spec_StarLength y41 y53.1 y53.2) fun y57 => Option.bind (m_laws_toPointS l0) fun y61 => Option.bind (m_laws_toPoint p1_0 p1_1) fun y74 => Option.bind (m_impl_StarLength y61 y74.1 y74.2) fun y78 => (bif y78.1 != y57.1 then some false else (bif !(y78.2 == y57.2) then some false else Option.bind (m_laws_toPointS l0) fun y85 => Option.bind (m_laws_eqPointS y61 y85) fun y99 => (bif !y99 then some false else some true))))

def m_spec_l01Bend (l0 : List (Int × Int)) (p1 : Int) : Option ((Bool)) :=
  (bif decide (p1 > 0) then (bif decide ((wr (p1 + 1)) < (((l0).length : Int))) then Option.bind (geti l0 (wr (p1 - 1))) fun x21 => Option.bind (geti l0 (wr (p1 + 1))) fun x23 => (bif x21.1 != x23.1 then Option.bind (geti l0 (wr (p1 - 1))) fun x26 => Option.bind (geti l0 (wr (p1 + 1))) fun x28 => some (x26.2 != x28.2) else some false) else some false) else some false)

noncomputable def m_spec_BendsOf_s1 (l0 : List (Int × Int)) (s58 : Int × Int) : Option (Ctl (Int × Int) (Int)) :=
  match s58 with | (x51, x52) => (bif decide (x52 < (((l0).length : Int))) then Option.bind (Option.bind (m_spec_l01Bend l0 x52) fun y73 => (bif y73 then some (wr (x51 + 1)) else some x51)) fun (s71 : Int) => (fun (x68 : Int) => some (Ctl.next ((x68, wr (x52 + 1))))) s71 else some (Ctl.out x51))
noncomputable def m_spec_BendsOf (l0 : List (Int × Int)) : Option ((Int) × (Bool)) :=
  Option.bind (m_spec_l01Path l0) fun y2 => (bif !y2 then some ((0, false)) else Option.bind (loopM (m_spec_BendsOf_s1 l0) ((0, 0))) fun (r55 : Int) => (fun (x48 : Int) => some ((x48, true))) r55)

def m_impl_corners_s1 (l0 : List (Int × Int)) (s506 : (List (Int × Int)) × Int) : Option (Ctl ((List (Int × Int)) × Int) ((List (Int × Int)))) :=
  match s506 with | (l493, x498) => (bif decide (x498 < (((l0).length : Int))) then Option.bind (Option.bind (geti l0 x498) fun x631 => (bif x498 == 0 then Option.bind (apC l493 (([(x631.1, x631.2)] : List (Int × Int)))) fun _ => some (l493 ++ (([(x631.1, x631.2)] : List (Int × Int)))) else (bif x498 == (wr ((((l0).length : Int)) - 1)) then Option.bind (apC l493 (([(x631.1, x631.2)] : List (Int × Int)))) fun _ => some (l493 ++ (([(x631.1, x631.2)] : List (Int × Int)))) else Option.bind (geti l0 (wr (x498 - 1))) fun x708 => Option.bind (geti l0 (wr (x498 + 1))) fun x710 => (bif x708.1 != x710.1 then Option.bind (geti l0 (wr (x498 - 1))) fun x713 => Option.bind (geti l0 (wr (x498 + 1))) fun x715 => (bif x713.2 != x715.2 then Option.bind (apC l493 (([(x631.1, x631.2)] : List (Int × Int)))) fun _ => some (l493 ++ (([(x631.1, x631.2)] : List (Int × Int)))) else some l493) else some l493)))) fun (s629 : (List (Int × Int))) => (fun (l620 : List (Int × Int)) => some (Ctl.next ((l620, wr (x498 + 1))))) s629 else some (Ctl.out l493))
noncomputable def m_impl_corners (l0 : List (Int × Int)) : Option ((List (Int × Int))) :=
  Option.bind (loopM (m_impl_corners_s1 l0) ((([] : List (Int × Int)), 0))) fun (r503 : (List (Int × Int))) => (fun (l484 : List (Int × Int)) => some l484) r503

noncomputable def m_impl_BendsOf (l0 : List (Int × Int)) : Option ((Int) × (Bool)) :=
  Option.bind (m_impl_IsPath l0) fun y2 => (bif !y2 then some ((0, false)) else Option.bind (m_impl_corners l0) fun y7 => some ((if 0 > (wr ((((y7).length : Int)) - 2)) then 0 else (wr ((((y7).length : Int)) - 2)), true)))

noncomputable def m_laws_FnExactBendsOf (l0 : List (Int × Int)) : Option ((Bool)) :=
  Option.bind (m_laws_szPointS l0 1048576) fun y2 => (bif decide (y2 < 0) then some true else Option.bind (m_laws_toPointS l0) fun y7 => Option.bind (m_spec_BendsOf y7) fun y18 => Option.bind (m_laws_toPointS l0) fun y22 => Option.bind (m_impl_BendsOf y22) fun y34 => (bif y34.1 != y18.1 then some false else (bif !(y34.2 == y18.2) then some false else Option.bind (m_laws_toPointS l0) fun y41 => Option.bind (m_laws_eqPointS y22 y41) fun y54 => (bif !y54 then some false else some true))))

def m_spec_l00Min (p0 : Int) (p1 : Int) : Option ((Int)) :=
  (bif decide (p0 < p1) then some p0 else some p1)

noncomputable def m_spec_l01Box_s1 (l0 : List (Int × Int)) (s346 : Int × Int × Int × Int × Int) : Option (Ctl (Int × Int × Int × Int × Int) (Int × Int × Int × Int)) :=
  match s346 with | (x332, x333, x334, x335, x336) => (bif decide (x332 < (((l0).length : Int))) then Option.bind (geti l0 x332) fun x373 => Option.bind (m_spec_l00Min x333 x373.1) fun y375 => Option.bind (geti l0 x332) fun x405 => Option.bind (m_spec_l00Min x334 x405.2) fun y407 => Option.bind (geti l0 x332) fun x438 => Option.bind (m_spec_l00Max x335 x438.1) fun y440 => Option.bind (geti l0 x332) fun x470 => Option.bind (m_spec_l00Max x336 x470.2) fun y472 => some (Ctl.next ((wr (x332 + 1), y375, y407, y440, y472))) else some (Ctl.out ((x333, x334, x335, x336))))
noncomputable def m_spec_l01Box (l0 : List (Int × Int)) : Option ((Int × Int) × (Int × Int)) :=
  Option.bind (geti l0 0) fun x15 => Option.bind (geti l0 0) fun x28 => Option.bind (loopM (m_spec_l01Box_s1 l0) ((1, x15.1, x15.2, x28.1, x28.2))) fun (r343 : Int × Int × Int × Int) => match r343 with | (x322, x323, x324, x325) => some (((x322, x323), (x324, x325)))

noncomputable def m_spec_BoxBound (l0 : List (Int × Int)) : Option ((Int) × (Bool)) :=
  Option.bind (m_spec_l05Is l0) fun y2 => (bif !y2 then some ((0, false)) else Option.bind (m_spec_l01Box l0) fun y7 => Option.bind (m_spec_l01Far y7.1.1 y7.1.2 y7.2.1 y7.2.2) fun y30 => some ((y30, true)))

def m_impl_box_s1 (l0 : List (Int × Int)) (s304 : Int × Int × Int × Int × Int) : Option (Ctl (Int × Int × Int × Int × Int) (Int × Int × Int × Int)) :=
  match s304 with | (x290, x291, x292, x293, x294) => (bif decide (x290 < (((l0).length : Int))) then Option.bind (geti l0 x290) fun x308 => some (Ctl.next ((wr (x290 + 1), if x308.1 < x291 then x308.1 else x291, if x308.2 < x292 then x308.2 else x292, if x308.1 > x293 then x308.1 else x293, if x308.2 > x294 then x308.2 else x294))) else some (Ctl.out ((x291, x292, x293, x294))))
noncomputable def m_impl_box (l0 : List (Int × Int)) : Option ((Int × Int) × (Int × Int)) :=
  Option.bind (Option.bind (geti l0 0) fun x162 => Option.bind (geti l0 0) fun x164 => some ((x162.1, x162.2, x164.1, x164.2))) fun (s155 : Int × Int × Int × Int) => match s155 with | (x135, x136, x139, x140) => Option.bind (loopM (m_impl_box_s1 l0) ((0, x135, x136, x139, x140))) fun (r301 : Int × Int × Int × Int) => match r301 with | (x280, x281, x282, x283) => some (((x280, x281), (x282, x283)))

noncomputable def m_impl_BoxBound (l0 : List (Int × Int)) : Option ((Int) × (Bool)) :=
  Option.bind (m_impl_ArePins l0) fun y2 => (bif !y2 then some ((0, false)) else Option.bind (m_impl_box l0) fun y7 => Option.bind (m_impl_far y7.1.1 y7.1.2 y7.2.1 y7.2.2) fun y30 => some ((y30, true)))

noncomputable def m_laws_FnExactBoxBound (l0 : List (Int × Int)) : Option ((Bool)) :=
  Option.bind (m_laws_szPointS l0 1048576) fun y2 => (bif decide (y2 < 0) then some true else Option.bind (m_laws_toPointS l0) fun y7 => Option.bind (m_spec_BoxBound y7) fun y18 => Option.bind (m_laws_toPointS l0) fun y22 => Option.bind (m_impl_BoxBound y22) fun y34 => (bif y34.1 != y18.1 then some false else (bif !(y34.2 == y18.2) then some false else Option.bind (m_laws_toPointS l0) fun y41 => Option.bind (m_laws_eqPointS y22 y41) fun y54 => (bif !y54 then some false else some true))))

noncomputable def m_spec_l05Few (l0 : List (Int × Int)) : Option ((Bool)) :=
  Option.bind (m_spec_l05Is l0) fun y2 => (bif y2 then some (decide ((((l0).length : Int)) ≤ 7)) else some false)

def m_spec_l01Before (p0_0 : Int) (p0_1 : Int) (p1_0 : Int) (p1_1 : Int) : Option ((Bool)) :=
  (bif decide (p0_0 < p1_0) then some true else (bif p0_0 == p1_0 then some (decide (p0_1 < p1_1)) else some false))

noncomputable def m_spec_l01Sorted_s4 (l0 : List (Int × Int)) (l503 : List (Int × Int)) (x508 : Int) (s601 : Int) : Option (Ctl (Int) (Int)) :=
  (fun (x594 : Int) => (bif decide (x594 < (((l503).length : Int))) then Option.bind (geti l503 x594) fun x622 => Option.bind (geti l0 x508) fun x624 => Option.bind (m_spec_l01Before x622.1 x622.2 x624.1 x624.2) fun y626 => (bif y626 then some (Ctl.next (wr (x594 + 1))) else some (Ctl.out x594)) else some (Ctl.out x594))) s601
noncomputable def m_spec_l01Sorted_s3 (l0 : List (Int × Int)) (s516 : (List (Int × Int)) × Int) : Option (Ctl ((List (Int × Int)) × Int) ((List (Int × Int)))) :=
  match s516 with | (l503, x508) => (bif decide (x508 < (((l0).length : Int))) then Option.bind (geti l0 x508) fun x520 => Option.bind (m_spec_l01Index l503 x520.1 x520.2) fun y522 => (bif decide (y522 ≥ 0) then some (Ctl.next ((l503, wr (x508 + 1)))) else Option.bind (loopM (m_spec_l01Sorted_s4 l0 l503 x508) 0) fun (r598 : Int) => (fun (x589 : Int) => Option.bind (slci l503 x589 (((l503).length : Int))) fun _ => Option.bind (apC (([] : List (Int × Int))) (slc l503 x589 (((l503).length : Int)))) fun _ => Option.bind (slci l503 0 x589) fun _ => Option.bind (geti l0 x508) fun x719 => Option.bind (apC (l503.take (Int.toNat x589)) (([(x719.1, x719.2)] : List (Int × Int)))) fun _ => Option.bind (apC ((l503.take (Int.toNat x589)) ++ (([(x719.1, x719.2)] : List (Int × Int)))) ((([] : List (Int × Int))) ++ (slc l503 x589 (((l503).length : Int))))) fun _ => some (Ctl.next ((((l503.take (Int.toNat x589)) ++ (([(x719.1, x719.2)] : List (Int × Int)))) ++ ((([] : List (Int × Int))) ++ (slc l503 x589 (((l503).length : Int)))), wr (x508 + 1))))) r598) else some (Ctl.out l503))
noncomputable def m_spec_l01Sorted (l0 : List (Int × Int)) : Option ((List (Int × Int))) :=
  Option.bind (loopM (m_spec_l01Sorted_s3 l0) ((([] : List (Int × Int)), 0))) fun (r513 : (List (Int × Int))) => (fun (l494 : List (Int × Int)) => some l494) r513

def m_spec_l05Hanan_s4 (l0 : List (Int × Int)) (x450 : Int) (s609 : (List (Int × Int)) × Int) : Option (Ctl ((List (Int × Int)) × Int) ((List (Int × Int)))) :=
  match s609 with | (l596, x601) => (bif decide (x601 < (((l0).length : Int))) then Option.bind (geti l0 x450) fun x644 => Option.bind (geti l0 x601) fun x646 => Option.bind (apC l596 (([(x644.1, x646.2)] : List (Int × Int)))) fun _ => some (Ctl.next ((l596 ++ (([(x644.1, x646.2)] : List (Int × Int))), wr (x601 + 1)))) else some (Ctl.out l596))
noncomputable def m_spec_l05Hanan_s3 (l0 : List (Int × Int)) (s458 : (List (Int × Int)) × Int) : Option (Ctl ((List (Int × Int)) × Int) ((List (Int × Int)))) :=
  match s458 with | (l445, x450) => (bif decide (x450 < (((l0).length : Int))) then Option.bind (loopM (m_spec_l05Hanan_s4 l0 x450) ((l445, 0))) fun (r606 : (List (Int × Int))) => (fun (l586 : List (Int × Int)) => some (Ctl.next ((l586, wr (x450 + 1))))) r606 else some (Ctl.out l445))
noncomputable def m_spec_l05Hanan (l0 : List (Int × Int)) : Option ((List (Int × Int))) :=
  Option.bind (loopM (m_spec_l05Hanan_s3 l0) ((([] : List (Int × Int)), 0))) fun (r455 : (List (Int × Int))) => (fun (l436 : List (Int × Int)) => Option.bind (m_spec_l01Sorted l436) fun y669 => some y669) r455

noncomputable def m_spec_HananPoints (l0 : List (Int × Int)) : Option ((List (Int × Int)) × (Bool)) :=
  Option.bind (m_spec_l05Few l0) fun y2 => (bif !y2 then some (([], false)) else Option.bind (m_spec_l05Hanan l0) fun y7 => some ((y7, true)))

def m_impl_hanan_s4 (l0 : List (Int × Int)) (x382 : Int × Int) (s508 : (List (Int × Int)) × Int) : Option (Ctl ((List (Int × Int)) × Int) ((List (Int × Int)))) :=
  match s508 with | (l493, x498) => (bif decide (x498 < (((l0).length : Int))) then Option.bind (geti l0 x498) fun x512 => Option.bind (apC l493 (([(x382.1, x512.2)] : List (Int × Int)))) fun _ => some (Ctl.next ((l493 ++ (([(x382.1, x512.2)] : List (Int × Int))), wr (x498 + 1)))) else some (Ctl.out l493))
noncomputable def m_impl_hanan_s3 (l0 : List (Int × Int)) (s378 : (List (Int × Int)) × Int) : Option (Ctl ((List (Int × Int)) × Int) ((List (Int × Int)))) :=
  match s378 with | (l365, x370) => (bif decide (x370 < (((l0).length : Int))) then Option.bind (geti l0 x370) fun x382 => Option.bind (loopM (m_impl_hanan_s4 l0 x382) ((l365, 0))) fun (r505 : (List (Int × Int))) => (fun (l483 : List (Int × Int)) => some (Ctl.next ((l483, wr (x370 + 1))))) r505 else some (Ctl.out l365))
noncomputable def m_impl_hanan (l0 : List (Int × Int)) : Option ((List (Int × Int))) :=
  Option.bind (loopM (m_impl_hanan_s3 l0) ((([] : List (Int × Int)), 0))) fun (r375 : (List (Int × Int))) => (fun (l356 : List (Int × Int)) => Option.bind (m_impl_sorted l356) fun y549 => some y549) r375

noncomputable def m_impl_HananPoints (l0 : List (Int × Int)) : Option ((List (Int × Int)) × (Bool)) :=
  Option.bind (m_impl_pinsOk l0 7) fun y2 => (bif !y2 then some (([], false)) else Option.bind (m_impl_hanan l0) fun y7 => some ((y7, true)))

def m_laws_markPointS_s1  (s52 : Int × Int × (List (Int × Int))) : Option (Ctl (Int × Int × (List (Int × Int))) (Int × (List (Int × Int)))) :=
  match s52 with | (x43, x44, l45) => (bif decide (x44 < (((l45).length : Int))) then Option.bind (geti l45 x44) fun x56 => Option.bind (geti (l45.set (Int.toNat x44) ((x43, x56.2))) x44) fun x62 => some (Ctl.next ((wr ((wr (x43 + 1)) + 1), wr (x44 + 1), (l45.set (Int.toNat x44) ((x43, x56.2))).set (Int.toNat x44) ((x62.1, wr (x43 + 1)))))) else some (Ctl.out ((x43, l45))))
noncomputable def m_laws_markPointS (l0 : List (Int × Int)) (p1 : Int) : Option ((Int) × (List (Int × Int))) :=
  Option.bind (loopM (m_laws_markPointS_s1) ((p1, 0, l0))) fun (r49 : Int × (List (Int × Int))) => match r49 with | (x37, l38) => some ((x37, l38))

def m_laws_heldPointS_s1 (l0 : List (Int × Int)) (s37 : Int × Int) : Option (Ctl (Int × Int) (Sum (Int) ((Int)))) :=
  match s37 with | (x30, x31) => (bif decide (x31 < (((l0).length : Int))) then Option.bind (geti l0 x31) fun x41 => (bif x41.1 != x30 then some (Ctl.out (Sum.inr ((-1)))) else Option.bind (geti l0 x31) fun x44 => (bif x44.2 != (wr (x30 + 1)) then some (Ctl.out (Sum.inr ((-1)))) else some (Ctl.next ((wr ((wr (x30 + 1)) + 1), wr (x31 + 1)))))) else some (Ctl.out (Sum.inl x30)))
noncomputable def m_laws_heldPointS (l0 : List (Int × Int)) (p1 : Int) : Option ((Int)) :=
  Option.bind (loopM (m_laws_heldPointS_s1 l0) ((p1, 0))) fun (r34 : Sum (Int) ((Int))) => match r34 with | Sum.inl q51 => ((fun (x27 : Int) => some x27) q51) | Sum.inr v50 => some v50

noncomputable def m_laws_FnExactHananPoints (l0 : List (Int × Int)) : Option ((Bool)) :=
  Option.bind (m_laws_szPointS l0 1048576) fun y2 => (bif decide (y2 < 0) then some true else Option.bind (m_laws_toPointS l0) fun y7 => Option.bind (m_spec_HananPoints y7) fun y18 => Option.bind (m_laws_toPointS l0) fun y30 => Option.bind (m_impl_HananPoints y30) fun y43 => Option.bind (m_laws_eqPointS y43.1 y18.1) fun y58 => (bif !y58 then some false else (bif !(y43.2 == y18.2) then some false else Option.bind (m_laws_toPointS l0) fun y64 => Option.bind (m_laws_eqPointS y30 y64) fun y79 => (bif !y79 then some false else Option.bind (m_laws_markPointS y30 1) fun y84 => (bif decide (y84.1 < 0) then some false else Option.bind (m_laws_eqPointS y43.1 y18.1) fun y92 => (bif !y92 then some false else (bif !(y43.2 == y18.2) then some false else Option.bind (m_laws_markPointS y43.1 1) fun y98 => Option.bind (m_laws_heldPointS y98.2 1) fun y105 => (bif decide (y105 < 0) then some false else (bif y105 != y98.1 then some false else Option.bind (m_laws_toPointS l0) fun y111 => Option.bind (m_impl_HananPoints y111) fun y127 => Option.bind (m_laws_eqPointS y127.1 y18.1) fun y144 => (bif !y144 then some false else (bif !(y127.2 == y18.2) then some false else Option.bind (m_laws_heldPointS y98.2 1) fun y152 => (bif decide (y152 < 0) then some false else (bif y152 != y98.1 then some false else some true)))))))))))))

noncomputable def m_spec_l01Corners_s1 (l0 : List (Int × Int)) (s338 : (List (Int × Int)) × Int) : Option (Ctl ((List (Int × Int)) × Int) ((List (Int × Int)))) :=
  match s338 with | (l325, x330) => (bif decide (x330 < (((l0).length : Int))) then Option.bind ((bif x330 == 0 then Option.bind (geti l0 x330) fun x422 => Option.bind (apC l325 (([(x422.1, x422.2)] : List (Int × Int)))) fun _ => some (l325 ++ (([(x422.1, x422.2)] : List (Int × Int)))) else (bif x330 == (wr ((((l0).length : Int)) - 1)) then Option.bind (geti l0 x330) fun x443 => Option.bind (apC l325 (([(x443.1, x443.2)] : List (Int × Int)))) fun _ => some (l325 ++ (([(x443.1, x443.2)] : List (Int × Int)))) else Option.bind (m_spec_l01Bend l0 x330) fun y463 => (bif y463 then Option.bind (geti l0 x330) fun x468 => Option.bind (apC l325 (([(x468.1, x468.2)] : List (Int × Int)))) fun _ => some (l325 ++ (([(x468.1, x468.2)] : List (Int × Int)))) else some l325)))) fun (s419 : (List (Int × Int))) => (fun (l410 : List (Int × Int)) => some (Ctl.next ((l410, wr (x330 + 1))))) s419 else some (Ctl.out l325))
noncomputable def m_spec_l01Corners (l0 : List (Int × Int)) : Option ((List (Int × Int))) :=
  Option.bind (loopM (m_spec_l01Corners_s1 l0) ((([] : List (Int × Int)), 0))) fun (r335 : (List (Int × Int))) => (fun (l316 : List (Int × Int)) => some l316) r335

noncomputable def m_spec_CornersOf (l0 : List (Int × Int)) : Option ((List (Int × Int)) × (Bool)) :=
  Option.bind (m_spec_l01Path l0) fun y2 => (bif !y2 then some (([], false)) else Option.bind (m_spec_l01Corners l0) fun y7 => some ((y7, true)))

noncomputable def m_impl_CornersOf (l0 : List (Int × Int)) : Option ((List (Int × Int)) × (Bool)) :=
  Option.bind (m_impl_IsPath l0) fun y2 => (bif !y2 then some (([], false)) else Option.bind (m_impl_corners l0) fun y7 => some ((y7, true)))

noncomputable def m_laws_FnExactCornersOf (l0 : List (Int × Int)) : Option ((Bool)) :=
  Option.bind (m_laws_szPointS l0 1048576) fun y2 => (bif decide (y2 < 0) then some true else Option.bind (m_laws_toPointS l0) fun y7 => Option.bind (m_spec_CornersOf y7) fun y18 => Option.bind (m_laws_toPointS l0) fun y30 => Option.bind (m_impl_CornersOf y30) fun y43 => Option.bind (m_laws_eqPointS y43.1 y18.1) fun y58 => (bif !y58 then some false else (bif !(y43.2 == y18.2) then some false else Option.bind (m_laws_toPointS l0) fun y64 => Option.bind (m_laws_eqPointS y30 y64) fun y79 => (bif !y79 then some false else Option.bind (m_laws_markPointS y30 1) fun y84 => (bif decide (y84.1 < 0) then some false else Option.bind (m_laws_eqPointS y43.1 y18.1) fun y92 => (bif !y92 then some false else (bif !(y43.2 == y18.2) then some false else Option.bind (m_laws_markPointS y43.1 1) fun y98 => Option.bind (m_laws_heldPointS y98.2 1) fun y105 => (bif decide (y105 < 0) then some false else (bif y105 != y98.1 then some false else Option.bind (m_laws_toPointS l0) fun y111 => Option.bind (m_impl_CornersOf y111) fun y127 => Option.bind (m_laws_eqPointS y127.1 y18.1) fun y144 => (bif !y144 then some false else (bif !(y127.2 == y18.2) then some false else Option.bind (m_laws_heldPointS y98.2 1) fun y152 => (bif decide (y152 < 0) then some false else (bif y152 != y98.1 then some false else some true)))))))))))))

noncomputable def m_spec_BestRoot_s1 (l0 : List (Int × Int)) (y16 : (List (Int × Int))) (s155 : Int × Int × Int × Int) : Option (Ctl (Int × Int × Int × Int) (Int × Int × Int)) :=
  match s155 with | (x143, x144, x145, x146) => (bif decide (x144 < (((y16).length : Int))) then Option.bind (Option.bind (geti y16 x144) fun x183 => Option.bind (m_spec_l05Star l0 x183.1 x183.2) fun y185 => (bif decide (y185 < x143) then Option.bind (geti y16 x144) fun x190 => some ((y185, x190.1, x190.2)) else some ((x143, x145, x146)))) fun (s181 : Int × Int × Int) => match s181 with | (x173, x174, x175) => some (Ctl.next ((x173, wr (x144 + 1), x174, x175))) else some (Ctl.out ((x143, x145, x146))))
noncomputable def m_spec_BestRoot (l0 : List (Int × Int)) : Option ((Int × Int) × (Int) × (Bool)) :=
  Option.bind (m_spec_l05Is l0) fun y8 => (bif !y8 then some (((0, 0), 0, false)) else Option.bind (m_spec_l05Hanan l0) fun y16 => Option.bind (geti y16 0) fun x28 => Option.bind (m_spec_l05Star l0 x28.1 x28.2) fun y41 => Option.bind (loopM (m_spec_BestRoot_s1 l0 y16) ((y41, 1, x28.1, x28.2))) fun (r152 : Int × Int × Int) => match r152 with | (x136, x137, x138) => some (((x137, x138), x136, true)))

noncomputable def m_impl_BestRoot_s1 (l0 : List (Int × Int)) (y16 : (List (Int × Int))) (s287 : Int × Int × Int) : Option (Ctl (Int × Int × Int) (Int × Int)) :=
  match s287 with | (x276, x277, x278) => (bif decide (x276 < (((y16).length : Int))) then Option.bind (Option.bind (geti y16 x276) fun x349 => Option.bind (m_impl_star l0 x349.1 x349.2) fun y385 => Option.bind (m_impl_star l0 x277 x278) fun y389 => (bif decide (y385 < y389) then some ((x349.1, x349.2)) else some ((x277, x278)))) fun (s347 : Int × Int) => match s347 with | (x340, x341) => some (Ctl.next ((wr (x276 + 1), x340, x341))) else some (Ctl.out ((x277, x278))))
noncomputable def m_impl_BestRoot (l0 : List (Int × Int)) : Option ((Int × Int) × (Int) × (Bool)) :=
  Option.bind (m_impl_ArePins l0) fun y8 => (bif !y8 then some (((0, 0), 0, false)) else Option.bind (m_impl_hanan l0) fun y16 => Option.bind (geti y16 0) fun x28 => Option.bind (loopM (m_impl_BestRoot_s1 l0 y16) ((0, x28.1, x28.2))) fun (r284 : Int × Int) => match r284 with | (x269, x270) => Option.bind (m_impl_star l0 x269 x270) fun y415 => some (((x269, x270), y415, true)))

noncomputable def m_laws_FnExactBestRoot (l0 : List (Int × Int)) : Option ((Bool)) :=
  Option.bind (m_laws_szPointS l0 1048576) fun y2 => (bif decide (y2 < 0) then some true else Option.bind (m_laws_toPointS l0) fun y7 => Option.bind (m_spec_BestRoot y7) fun y18 => Option.bind (m_laws_toPointS l0) fun y32 => Option.bind (m_impl_BestRoot y32) fun y45 => Option.bind (m_laws_eqPoint y45.1.1 y45.1.2 y18.1.1 y18.1.2) fun y62 => (bif !y62 then some false else (bif y45.2.1 != y18.2.1 then some false else (bif !(y45.2.2 == y18.2.2) then some false else Option.bind (m_laws_toPointS l0) fun y69 => Option.bind (m_laws_eqPointS y32 y69) fun y84 => (bif !y84 then some false else some true)))))

def m_laws_b10Long (l0 : List (Int)) (l1 : List (Int)) : Option ((Bool)) :=
  (bif decide ((((l0).length : Int)) > 1048576) then some true else some (decide ((((l1).length : Int)) > 1048576)))

def m_spec_l00From (l0 : List (Int)) : Option ((Int × Int)) :=
  some ((0, 0))

def m_spec_l00Src_next_bspecl00Src (l0_0 : List (Int)) (q0_1 : Int) (q0_2 : Int) : Option ((Int) × (Int) × (Int)) :=
  Option.bind ((bif decide (q0_1 < (((l0_0).length : Int))) then Option.bind (geti l0_0 q0_1) fun x50 => some (wr x50) else some 0)) fun (s29 : Int) => (fun (x25 : Int) => (bif decide ((wr (q0_1 + 1)) ≤ (((l0_0).length : Int))) then some ((x25, wr (q0_1 + 1), wu ((wu ((wu (q0_2 * 6364136223846793005)) + (wu x25))) + 1442695040888963407))) else some ((wr (andU (shrU (wu ((wu ((wu (q0_2 * 6364136223846793005)) + (wu x25))) + 1442695040888963407)) 40) 255), wr (q0_1 + 1), wu ((wu ((wu (q0_2 * 6364136223846793005)) + (wu x25))) + 1442695040888963407))))) s29

def m_spec_l00Src_pick_bspecl00Src (l0_0 : List (Int)) (q0_1 : Int) (q0_2 : Int) (p1 : Int) : Option ((Int) × (Int) × (Int)) :=
  (bif decide (p1 ≤ 1) then some ((0, q0_1, q0_2)) else Option.bind (m_spec_l00Src_next_bspecl00Src l0_0 q0_1 q0_2) fun y4 => Option.bind ((bif decide (p1 > 200) then Option.bind (m_spec_l00Src_next_bspecl00Src l0_0 y4.2.1 y4.2.2) fun y25 => some ((wr ((wr (y4.1 * 256)) + y25.1), y25.2.1, y25.2.2)) else some ((y4.1, y4.2.1, y4.2.2)))) fun (s22 : Int × Int × Int) => match s22 with | (x16, x17, x18) => Option.bind (nzC p1) fun u30 => some ((Int.tmod x16 p1, x17, x18)))

def m_spec_l00Src_one_bspecl00Src (l0_0 : List (Int)) (q0_1 : Int) (q0_2 : Int) (p1 : Int) : Option ((Bool) × (Int) × (Int)) :=
  Option.bind (m_spec_l00Src_pick_bspecl00Src l0_0 q0_1 q0_2 p1) fun y3 => some ((y3.1 == 0, y3.2.1, y3.2.2))

def m_spec_l01DrawGood_bspecl00Src (l0_0 : List (Int)) (q0_1 : Int) (q0_2 : Int) : Option ((Int × Int) × (Int) × (Int)) :=
  Option.bind (Option.bind (m_spec_l00Src_one_bspecl00Src l0_0 q0_1 q0_2 8) fun y25 => (bif y25.1 then some ((100, y25.2.1, y25.2.2)) else some ((10, y25.2.1, y25.2.2)))) fun (s23 : Int × Int × Int) => match s23 with | (x16, x17, x18) => Option.bind (m_spec_l00Src_pick_bspecl00Src l0_0 x17 x18 x16) fun y31 => Option.bind (m_spec_l00Src_pick_bspecl00Src l0_0 y31.2.1 y31.2.2 x16) fun y46 => some (((y31.1, y46.1), y46.2.1, y46.2.2))

noncomputable def m_spec_B10Path_s1 (l0 : List (Int)) (s795 : (List (Int × Int)) × Int × Int × Int × Int) : Option (Ctl ((List (Int × Int)) × Int × Int × Int × Int) ((List (Int × Int)))) :=
  match s795 with | (l777, x782, x783, x784, x785) => (bif decide (x783 > 0) then Option.bind (Option.bind (Option.bind (m_spec_l00Src_one_bspecl00Src l0 x784 x785 3) fun y1007 => (bif y1007.1 then Option.bind (m_spec_l00Src_pick_bspecl00Src l0 y1007.2.1 y1007.2.2 4) fun y1013 => some ((y1013.1, y1013.2.1, y1013.2.2)) else some ((x782, y1007.2.1, y1007.2.2)))) fun (s1005 : Int × Int × Int) => match s1005 with | (x998, x999, x1000) => Option.bind (geti l777 (wr ((((l777).length : Int)) - 1))) fun x1018 => Option.bind (geti (([1, 0, (-1), 0] : List (Int))) x998) fun x1068 => Option.bind (geti (([0, 1, 0, (-1)] : List (Int))) x998) fun x1114 => Option.bind (m_spec_l01Point (wr (x1018.1 + x1068)) (wr (x1018.2 + x1114))) fun y1120 => (bif y1120 then Option.bind (m_spec_l01Index l777 (wr (x1018.1 + x1068)) (wr (x1018.2 + x1114))) fun y1125 => (bif decide (y1125 < 0) then Option.bind (apC l777 (([(wr (x1018.1 + x1068), wr (x1018.2 + x1114))] : List (Int × Int)))) fun _ => some ((l777 ++ (([(wr (x1018.1 + x1068), wr (x1018.2 + x1114))] : List (Int × Int))), x998, x999, x1000)) else some ((l777, x998, x999, x1000))) else some ((l777, x998, x999, x1000)))) fun (s984 : (List (Int × Int)) × Int × Int × Int) => match s984 with | (l970, x975, x976, x977) => some (Ctl.next ((l970, x975, wr (x783 - 1), x976, x977))) else some (Ctl.out l777))
noncomputable def m_spec_B10Path (l0 : List (Int)) : Option ((List (Int × Int))) :=
  Option.bind (m_spec_l00From l0) fun y2 => Option.bind (m_spec_l01DrawGood_bspecl00Src l0 y2.1 y2.2) fun y10 => Option.bind (m_spec_l00Src_pick_bspecl00Src l0 y10.2.1 y10.2.2 4) fun y22 => Option.bind (m_spec_l00Src_pick_bspecl00Src l0 y22.2.1 y22.2.2 14) fun y27 => Option.bind (loopM (m_spec_B10Path_s1 l0) ((([(y10.1.1, y10.1.2)] : List (Int × Int)), y22.1, y27.1, y27.2.1, y27.2.2))) fun (r792 : (List (Int × Int))) => (fun (l768 : List (Int × Int)) => some l768) r792

def m_impl_side (p0 : Int) : Option ((Int)) :=
  Option.bind (m_cmp_Compare_int64 p0 0) fun y1 => some y1

noncomputable def m_impl_line_s1 (p1_0 : Int) (p1_1 : Int) (s179 : (List (Int × Int)) × Int × Int) : Option (Ctl ((List (Int × Int)) × Int × Int) ((List (Int × Int)))) :=
  match s179 with | (l162, x167, x168) => (bif !(x167 == p1_0 && x168 == p1_1) then Option.bind (m_impl_side (wr (p1_0 - x167))) fun y204 => Option.bind (m_impl_side (wr (p1_1 - x168))) fun y208 => Option.bind (apC l162 (([(wr (x167 + y204), wr (x168 + y208))] : List (Int × Int)))) fun _ => some (Ctl.next ((l162 ++ (([(wr (x167 + y204), wr (x168 + y208))] : List (Int × Int))), wr (x167 + y204), wr (x168 + y208)))) else some (Ctl.out l162))
noncomputable def m_impl_line (p0_0 : Int) (p0_1 : Int) (p1_0 : Int) (p1_1 : Int) : Option ((List (Int × Int))) :=
  Option.bind (loopM (m_impl_line_s1 p1_0 p1_1) ((([] : List (Int × Int)), p0_0, p0_1))) fun (r176 : (List (Int × Int))) => (fun (l153 : List (Int × Int)) => some l153) r176

def m_slices_Equal_impl_Point_impl_Point_s1 (l0 : List (Int × Int)) (l1 : List (Int × Int)) (s57 : Int) : Option (Ctl (Int) (Sum (Unit) ((Bool)))) :=
  (fun (x50 : Int) => (bif decide (x50 < (((l0).length : Int))) then Option.bind (geti l0 x50) fun x73 => Option.bind (geti l1 x50) fun x75 => (bif !(x73.1 == x75.1 && x73.2 == x75.2) then some (Ctl.out (Sum.inr false)) else some (Ctl.next (wr (x50 + 1)))) else some (Ctl.out (Sum.inl (()))))) s57
noncomputable def m_slices_Equal_impl_Point_impl_Point (l0 : List (Int × Int)) (l1 : List (Int × Int)) : Option ((Bool)) :=
  (bif (((l0).length : Int)) != (((l1).length : Int)) then some false else Option.bind (loopM (m_slices_Equal_impl_Point_impl_Point_s1 l0 l1) 0) fun (r54 : Sum (Unit) ((Bool))) => match r54 with | Sum.inl q80 => (some true) | Sum.inr v79 => some v79)

noncomputable def m_impl_through_s1 (l0 : List (Int × Int)) (s548 : (List (Int × Int)) × Int) : Option (Ctl ((List (Int × Int)) × Int) (Sum ((List (Int × Int))) ((List (Int × Int)) × (Bool)))) :=
  match s548 with | (l535, x540) => (bif decide (x540 < (((l0).length : Int))) then Option.bind (Option.bind (geti l0 (wr (x540 - 1))) fun x685 => Option.bind (geti l0 x540) fun x687 => some ((x685.1, x685.2, x687.1, x687.2))) fun (s679 : Int × Int × Int × Int) => match s679 with | (x662, x663, x666, x667) => (bif x662 == x666 && x663 == x667 then some (Ctl.out (Sum.inr (([], false)))) else (bif x662 != x666 then (bif x663 != x667 then some (Ctl.out (Sum.inr (([], false)))) else (bif decide ((((l535).length : Int)) > 576) then some (Ctl.out (Sum.inr (([], false)))) else Option.bind (m_impl_line x662 x663 x666 x667) fun y742 => Option.bind (neC y742) fun _ => Option.bind (apC l535 y742) fun _ => some (Ctl.next ((l535 ++ y742, wr (x540 + 1)))))) else (bif decide ((((l535).length : Int)) > 576) then some (Ctl.out (Sum.inr (([], false)))) else Option.bind (m_impl_line x662 x663 x666 x667) fun y772 => Option.bind (neC y772) fun _ => Option.bind (apC l535 y772) fun _ => some (Ctl.next ((l535 ++ y772, wr (x540 + 1))))))) else some (Ctl.out (Sum.inl l535)))
noncomputable def m_impl_through (l0 : List (Int × Int)) : Option ((List (Int × Int)) × (Bool)) :=
  (bif (((l0).length : Int)) == 0 then some (([], false)) else (bif decide ((((l0).length : Int)) > 576) then some (([], false)) else Option.bind (m_slices_ContainsFunc_impl_Point_impl_Point_impl_noPoint l0) fun y4 => (bif y4 then some (([], false)) else Option.bind (slci l0 0 1) fun y9 => Option.bind (loopM (m_impl_through_s1 l0) ((y9, 1))) fun (r545 : Sum ((List (Int × Int))) ((List (Int × Int)) × (Bool))) => match r545 with | Sum.inl q823 => ((fun (l525 : List (Int × Int)) => Option.bind (m_impl_IsPath l525) fun y801 => (bif y801 then Option.bind (m_impl_corners l525) fun y806 => Option.bind (m_slices_Equal_impl_Point_impl_Point y806 l0) fun y818 => some ((l525, y818)) else some ((l525, false)))) q823) | Sum.inr v822 => some v822)))

noncomputable def m_impl_PathThrough (l0 : List (Int × Int)) : Option ((List (Int × Int)) × (Bool)) :=
  Option.bind (m_impl_through l0) fun y2 => (bif !y2.2 then some (([], false)) else Option.bind (m_slices_Clone_impl_Point_impl_Point y2.1) fun y14 => some ((y14, true)))

def m_laws_b10Same_s1 (l0 : List (Int × Int)) (l1 : List (Int × Int)) (s57 : Int) : Option (Ctl (Int) (Sum (Unit) ((Bool)))) :=
  (fun (x50 : Int) => (bif decide (x50 < (((l0).length : Int))) then Option.bind (geti l0 x50) fun x73 => Option.bind (geti l1 x50) fun x75 => (bif !(x73.1 == x75.1 && x73.2 == x75.2) then some (Ctl.out (Sum.inr false)) else some (Ctl.next (wr (x50 + 1)))) else some (Ctl.out (Sum.inl (()))))) s57
noncomputable def m_laws_b10Same (l0 : List (Int × Int)) (l1 : List (Int × Int)) : Option ((Bool)) :=
  (bif (((l0).length : Int)) != (((l1).length : Int)) then some false else Option.bind (loopM (m_laws_b10Same_s1 l0 l1) 0) fun (r54 : Sum (Unit) ((Bool))) => match r54 with | Sum.inl q80 => (some true) | Sum.inr v79 => some v79)

def m_laws_b10Abs (p0 : Int) : Option ((Int)) :=
  (bif decide (p0 < 0) then some (wr (0 - p0)) else some p0)

def m_laws_b10Far (p0_0 : Int) (p0_1 : Int) (p1_0 : Int) (p1_1 : Int) : Option ((Int)) :=
  Option.bind (m_laws_b10Abs (wr (p0_0 - p1_0))) fun y30 => Option.bind (m_laws_b10Abs (wr (p0_1 - p1_1))) fun y34 => some (wr (y30 + y34))

noncomputable def m_laws_FnPathCorners_s1 (y19 : (List (Int × Int)) × (Bool)) (s147 : Int × Int) : Option (Ctl (Int × Int) (Int)) :=
  match s147 with | (x139, x140) => (bif decide (x140 < (((y19.1).length : Int))) then Option.bind (geti y19.1 (wr (x140 - 1))) fun x167 => Option.bind (geti y19.1 x140) fun x169 => Option.bind (m_laws_b10Far x167.1 x167.2 x169.1 x169.2) fun y171 => some (Ctl.next ((wr (x139 + y171), wr (x140 + 1)))) else some (Ctl.out x139))
noncomputable def m_laws_FnPathCorners (l0 : List (Int)) (l1 : List (Int)) : Option ((Bool)) :=
  Option.bind (m_laws_b10Long l0 l1) fun y3 => (bif y3 then some true else Option.bind (m_spec_B10Path l0) fun y8 => Option.bind (m_impl_CornersOf y8) fun y19 => Option.bind (m_impl_PathThrough y19.1) fun y31 => Option.bind (m_impl_LengthOf y8) fun y44 => Option.bind (m_impl_BendsOf y8) fun y49 => (bif !y19.2 then some false else (bif !y31.2 then some false else (bif !y44.2 then some false else (bif !y49.2 then some false else Option.bind (m_impl_IsPath y8) fun y61 => (bif !y61 then some false else Option.bind (m_laws_b10Same y31.1 y8) fun y67 => (bif !y67 then some false else (bif y44.1 != (wr ((((y8).length : Int)) - 1)) then some false else Option.bind (loopM (m_laws_FnPathCorners_s1 y19) ((0, 1))) fun (r144 : Int) => (fun (x134 : Int) => (bif x134 != y44.1 then some false else (bif (((y8).length : Int)) == 1 then (bif y49.1 == 0 then some ((((y19.1).length : Int)) == 1) else some false) else some (y49.1 == (wr ((((y19.1).length : Int)) - 2)))))) r144))))))))

noncomputable def m_spec_l05Tree_s13 (l0 : List (Int × Int)) (l3600 : List (Bool)) (x4778 : Int) (s5180 : (List (Int)) × Int × Int) : Option (Ctl ((List (Int)) × Int × Int) ((List (Int)) × Int)) :=
  match s5180 with | (l5162, x5167, x5168) => (bif decide (x5168 < (((l0).length : Int))) then Option.bind (Option.bind (geti l0 x4778) fun x5295 => Option.bind (geti l0 x5168) fun x5297 => Option.bind (m_spec_l01Far x5295.1 x5295.2 x5297.1 x5297.2) fun y5299 => Option.bind (geti l3600 x4778) fun x5321 => Option.bind (geti l3600 x5168) fun x5323 => (bif !(x5321 == x5323) then (bif decide (x5167 < 0) then some ((([x4778, x5168] : List (Int)), y5299)) else (bif decide (y5299 < x5167) then some ((([x4778, x5168] : List (Int)), y5299)) else some ((l5162, x5167)))) else some ((l5162, x5167)))) fun (s5273 : (List (Int)) × Int) => match s5273 with | (l5259, x5264) => some (Ctl.next ((l5259, x5264, wr (x5168 + 1)))) else some (Ctl.out ((l5162, x5167))))
noncomputable def m_spec_l05Tree_s12 (l0 : List (Int × Int)) (l3600 : List (Bool)) (s4790 : (List (Int)) × Int × Int) : Option (Ctl ((List (Int)) × Int × Int) ((List (Int)) × Int)) :=
  match s4790 with | (l4772, x4777, x4778) => (bif decide (x4778 < (((l0).length : Int))) then Option.bind (loopM (m_spec_l05Tree_s13 l0 l3600 x4778) ((l4772, x4777, wr (x4778 + 1)))) fun (r5177 : (List (Int)) × Int) => match r5177 with | (l5147, x5152) => some (Ctl.next ((l5147, x5152, wr (x4778 + 1)))) else some (Ctl.out ((l4772, x4777))))
noncomputable def m_spec_l05Tree_s9 (l0 : List (Int × Int)) (s3610 : (List (List (Int))) × Int × (List (Bool))) : Option (Ctl ((List (List (Int))) × Int × (List (Bool))) ((List (List (Int))) × Int)) :=
  match s3610 with | (l3593, x3599, l3600) => (bif decide ((((l3593).length : Int)) < (wr ((((l0).length : Int)) - 1))) then Option.bind (loopM (m_spec_l05Tree_s12 l0 l3600) ((([] : List (Int)), (-1), 0))) fun (r4787 : (List (Int)) × Int) => match r4787 with | (l4757, x4762) => Option.bind (geti l4757 0) fun x5351 => Option.bind (geti l3600 x5351) fun x5353 => Option.bind (geti l4757 1) fun x5358 => Option.bind (geti (l3600.set (Int.toNat x5351) true) x5358) fun x5360 => Option.bind (apC l3593 (([l4757] : List (List (Int))))) fun _ => some (Ctl.next ((l3593 ++ (([l4757] : List (List (Int)))), wr (x3599 + x4762), (l3600.set (Int.toNat x5351) true).set (Int.toNat x5358) true))) else some (Ctl.out ((l3593, x3599))))
noncomputable def m_spec_l05Tree (l0 : List (Int × Int)) : Option ((List (List (Int))) × (Int)) :=
  Option.bind (mkC (((l0).length : Int))) fun _ => Option.bind (geti (List.replicate (Int.toNat (((l0).length : Int))) ((false : Bool))) 0) fun x9 => Option.bind (loopM (m_spec_l05Tree_s9 l0) ((([] : List (List (Int))), 0, (List.replicate (Int.toNat (((l0).length : Int))) ((false : Bool))).set (Int.toNat 0) true))) fun (r3607 : (List (List (Int))) × Int) => match r3607 with | (l3582, x3588) => some ((l3582, x3588))

noncomputable def m_spec_l05Gain (l0 : List (Int × Int)) (p1_0 : Int) (p1_1 : Int) : Option ((Int)) :=
  Option.bind (m_spec_l05Tree l0) fun y8 => Option.bind (Option.bind (apC (([] : List (Int × Int))) l0) fun _ => Option.bind (apC ((([] : List (Int × Int))) ++ l0) (([(p1_0, p1_1)] : List (Int × Int)))) fun _ => Option.bind (m_spec_l05Tree (((([] : List (Int × Int))) ++ l0) ++ (([(p1_0, p1_1)] : List (Int × Int))))) fun y438 => some y438.2) fun (s385 : Int) => (fun (x383 : Int) => some (wr (y8.2 - x383))) s385

noncomputable def m_spec_GainOf (l0 : List (Int × Int)) (p1_0 : Int) (p1_1 : Int) : Option ((Int) × (Bool)) :=
  Option.bind (m_spec_l05Is l0) fun y8 => (bif !y8 then some ((0, false)) else (bif decide ((((l0).length : Int)) ≥ 20) then some ((0, false)) else Option.bind (m_spec_l01Point p1_0 p1_1) fun y14 => (bif !y14 then some ((0, false)) else Option.bind (m_spec_l01Index l0 p1_0 p1_1) fun y19 => (bif decide (y19 ≥ 0) then some ((0, true)) else Option.bind (m_spec_l05Gain l0 p1_0 p1_1) fun y24 => some ((y24, true))))))

def m_slices_Compare_int64_int64_s1 (l0 : List (Int)) (l1 : List (Int)) (s46 : Int) : Option (Ctl (Int) (Sum (Unit) ((Int)))) :=
  (fun (x39 : Int) => (bif decide (x39 < (((l0).length : Int))) then Option.bind (geti l0 x39) fun x50 => (bif decide (x39 ≥ (((l1).length : Int))) then some (Ctl.out (Sum.inr 1)) else Option.bind (geti l1 x39) fun x53 => Option.bind (m_cmp_Compare_int64 x50 x53) fun y55 => (bif y55 != 0 then some (Ctl.out (Sum.inr y55)) else some (Ctl.next (wr (x39 + 1))))) else some (Ctl.out (Sum.inl (()))))) s46
noncomputable def m_slices_Compare_int64_int64 (l0 : List (Int)) (l1 : List (Int)) : Option ((Int)) :=
  Option.bind (loopM (m_slices_Compare_int64_int64_s1 l0 l1) 0) fun (r43 : Sum (Unit) ((Int))) => match r43 with | Sum.inl q64 => ((bif decide ((((l0).length : Int)) < (((l1).length : Int))) then some ((-1)) else some 0)) | Sum.inr v63 => some v63

def m_impl_spanning_s13 (l0 : List (Int × Int)) (l2782 : List (Bool)) (x3641 : Int) (s3934 : Int × Int × Int) : Option (Ctl (Int × Int × Int) (Int × Int)) :=
  match s3934 with | (x3924, x3925, x3926) => (bif decide (x3926 < (((l0).length : Int))) then Option.bind (Option.bind (geti l2782 x3641) fun x4037 => Option.bind (geti l2782 x3926) fun x4039 => (bif !(x4037 == x4039) then (bif decide (x3924 < 0) then some ((x3641, x3926)) else Option.bind (geti l0 x3641) fun x4044 => Option.bind (geti l0 x3926) fun x4046 => Option.bind (geti l0 x3924) fun x4048 => Option.bind (geti l0 x3925) fun x4050 => Option.bind (m_impl_far x4044.1 x4044.2 x4046.1 x4046.2) fun y4052 => Option.bind (m_impl_far x4048.1 x4048.2 x4050.1 x4050.2) fun y4056 => (bif decide (y4052 < y4056) then some ((x3641, x3926)) else some ((x3924, x3925)))) else some ((x3924, x3925)))) fun (s4003 : Int × Int) => match s4003 with | (x3997, x3998) => some (Ctl.next ((x3997, x3998, wr (x3926 + 1)))) else some (Ctl.out ((x3924, x3925))))
noncomputable def m_impl_spanning_s12 (l0 : List (Int × Int)) (l2782 : List (Bool)) (s3649 : Int × Int × Int) : Option (Ctl (Int × Int × Int) (Int × Int)) :=
  match s3649 with | (x3639, x3640, x3641) => (bif decide (x3641 < (((l0).length : Int))) then Option.bind (loopM (m_impl_spanning_s13 l0 l2782 x3641) ((x3639, x3640, wr (x3641 + 1)))) fun (r3931 : Int × Int) => match r3931 with | (x3917, x3918) => some (Ctl.next ((x3917, x3918, wr (x3641 + 1)))) else some (Ctl.out ((x3639, x3640))))
noncomputable def m_impl_spanning_s9 (l0 : List (Int × Int)) (s2792 : (List (List (Int))) × Int × (List (Bool))) : Option (Ctl ((List (List (Int))) × Int × (List (Bool))) ((List (List (Int))) × Int)) :=
  match s2792 with | (l2775, x2781, l2782) => (bif decide ((wr ((((l2775).length : Int)) + 1)) < (((l0).length : Int))) then Option.bind (loopM (m_impl_spanning_s12 l0 l2782) (((-1), (-1), 0))) fun (r3646 : Int × Int) => match r3646 with | (x3632, x3633) => Option.bind (geti l2782 x3632) fun x4065 => Option.bind (geti (l2782.set (Int.toNat x3632) true) x3633) fun x4070 => Option.bind (geti l0 x3632) fun x4121 => Option.bind (geti l0 x3633) fun x4123 => Option.bind (apC l2775 (([([x3632, x3633] : List (Int))] : List (List (Int))))) fun _ => Option.bind (m_impl_far x4121.1 x4121.2 x4123.1 x4123.2) fun y4153 => some (Ctl.next ((l2775 ++ (([([x3632, x3633] : List (Int))] : List (List (Int)))), wr (x2781 + y4153), (l2782.set (Int.toNat x3632) true).set (Int.toNat x3633) true))) else some (Ctl.out ((l2775, x2781))))
noncomputable def m_impl_spanning (l0 : List (Int × Int)) : Option ((List (List (Int))) × (Int)) :=
  Option.bind (mkC (((l0).length : Int))) fun _ => Option.bind (geti (List.replicate (Int.toNat (((l0).length : Int))) ((false : Bool))) 0) fun x16 => Option.bind (loopM (m_impl_spanning_s9 l0) ((([] : List (List (Int))), 0, (List.replicate (Int.toNat (((l0).length : Int))) ((false : Bool))).set (Int.toNat 0) true))) fun (r2789 : (List (List (Int))) × Int) => match r2789 with | (l2764, x2770) => Option.bind (m_slices_SortFunc_int64_int64_slices_Compare_int64_int64 l2764) fun y4158 => some ((y4158, x2770))

def m_slices_Index_impl_Point_impl_Point_s1 (l0 : List (Int × Int)) (p1_0 : Int) (p1_1 : Int) (s53 : Int) : Option (Ctl (Int) (Sum (Unit) ((Int)))) :=
  (fun (x46 : Int) => (bif decide (x46 < (((l0).length : Int))) then Option.bind (geti l0 x46) fun x67 => (bif p1_0 == x67.1 && p1_1 == x67.2 then some (Ctl.out (Sum.inr x46)) else some (Ctl.next (wr (x46 + 1)))) else some (Ctl.out (Sum.inl (()))))) s53
noncomputable def m_slices_Index_impl_Point_impl_Point (l0 : List (Int × Int)) (p1_0 : Int) (p1_1 : Int) : Option ((Int)) :=
  Option.bind (loopM (m_slices_Index_impl_Point_impl_Point_s1 l0 p1_0 p1_1) 0) fun (r50 : Sum (Unit) ((Int))) => match r50 with | Sum.inl q72 => (some ((-1))) | Sum.inr v71 => some v71

noncomputable def m_slices_Contains_impl_Point_impl_Point (l0 : List (Int × Int)) (p1_0 : Int) (p1_1 : Int) : Option ((Bool)) :=
  Option.bind (m_slices_Index_impl_Point_impl_Point l0 p1_0 p1_1) fun y8 => some (decide (y8 ≥ 0))

def m_slices_Clip_impl_Point_impl_Point (l0 : List (Int × Int)) : Option ((List (Int × Int))) :=
  Option.bind (slci l0 0 (((l0).length : Int))) fun y2 => some y2

noncomputable def m_impl_gain (l0 : List (Int × Int)) (p1_0 : Int) (p1_1 : Int) : Option ((Int)) :=
  Option.bind (m_slices_Contains_impl_Point_impl_Point l0 p1_0 p1_1) fun y8 => (bif y8 then some 0 else Option.bind (m_impl_spanning l0) fun y13 => Option.bind (Option.bind (apC l0 (([(p1_0, p1_1)] : List (Int × Int)))) fun _ => Option.bind (m_impl_spanning (l0 ++ (([(p1_0, p1_1)] : List (Int × Int))))) fun y230 => some y230.2) fun (s198 : Int) => (fun (x196 : Int) => some (wr (y13.2 - x196))) s198)

noncomputable def m_impl_GainOf (l0 : List (Int × Int)) (p1_0 : Int) (p1_1 : Int) : Option ((Int) × (Bool)) :=
  Option.bind (m_impl_pinsOk l0 19) fun y8 => (bif !y8 then some ((0, false)) else Option.bind (m_impl_IsPoint p1_0 p1_1) fun y13 => (bif !y13 then some ((0, false)) else Option.bind (m_impl_gain l0 p1_0 p1_1) fun y18 => some ((y18, true))))

noncomputable def m_laws_FnExactGainOf (l0 : List (Int × Int)) (p1_0 : Int) (p1_1 : Int) : Option ((Bool)) :=
  Option.bind (m_laws_szPointS l0 1048576) fun y8 => (bif decide (y8 < 0) then some true else Option.bind (m_laws_toPointS l0) fun y41 => Option.bind (m_laws_toPoint p1_0 p1_1) fun y53 => Option.bind (m_spec_GainOf y41 y53.1 y53.2) fun y57 => Option.bind (m_laws_toPointS l0) fun y61 => Option.bind (m_laws_toPoint p1_0 p1_1) fun y74 => Option.bind (m_impl_GainOf y61 y74.1 y74.2) fun y78 => (bif y78.1 != y57.1 then some false else (bif !(y78.2 == y57.2) then some false else Option.bind (m_laws_toPointS l0) fun y85 => Option.bind (m_laws_eqPointS y61 y85) fun y99 => (bif !y99 then some false else some true))))

def m_spec_l00Own (l0 : List (Int)) : Option ((List (Int))) :=
  Option.bind (apC (([] : List (Int))) l0) fun _ => some ((([] : List (Int))) ++ l0)

noncomputable def m_spec_l05Steiner_s30 (x7113 : Int) (x8665 : Int) (l8666 : List (List (Int))) (s9245 : Int × Int) : Option (Ctl (Int × Int) (Int)) :=
  match s9245 with | (x9236, x9237) => (bif decide (x9237 > 0) then Option.bind (Option.bind (geti l8666 x9237) fun x9370 => Option.bind (geti x9370 x8665) fun x9383 => Option.bind (geti l8666 (andNI x7113 x9237)) fun x9385 => Option.bind (geti x9385 x8665) fun x9398 => (bif decide (x9236 < 0) then some (wr (x9383 + x9398)) else (bif decide ((wr (x9383 + x9398)) < x9236) then some (wr (x9383 + x9398)) else some x9236))) fun (s9328 : Int) => (fun (x9323 : Int) => some (Ctl.next ((x9323, andI (wr (x9237 - 1)) x7113)))) s9328 else some (Ctl.out x9236))
noncomputable def m_spec_l05Steiner_s29 (l0 : List (Int × Int)) (y2 : (List (Int × Int))) (x7113 : Int) (x8665 : Int) (s8838 : Int × Int) : Option (Ctl (Int × Int) (Int)) :=
  match s8838 with | (x8829, x8830) => (bif decide (x8830 < (((l0).length : Int))) then Option.bind (Option.bind (p0C (wu x8830)) fun u8879 => (bif x7113 == (shlI 1 (wu x8830)) then Option.bind (geti l0 x8830) fun x8900 => Option.bind (geti y2 x8665) fun x8902 => Option.bind (m_spec_l01Far x8900.1 x8900.2 x8902.1 x8902.2) fun y8904 => some y8904 else some x8829)) fun (s8877 : Int) => (fun (x8872 : Int) => some (Ctl.next ((x8872, wr (x8830 + 1))))) s8877 else some (Ctl.out x8829))
noncomputable def m_spec_l05Steiner_s34 (y2 : (List (Int × Int))) (x7113 : Int) (y9441 : (List (Int))) (x10251 : Int) (s10531 : Int × (List (List (Int)))) : Option (Ctl (Int × (List (List (Int)))) ((List (List (Int))))) :=
  match s10531 with | (x10521, l10522) => (bif decide (x10521 < (((y2).length : Int))) then Option.bind (geti l10522 x7113) fun x10599 => Option.bind (geti l10522 x7113) fun x10612 => Option.bind (geti x10612 x10251) fun x10625 => Option.bind (geti y9441 x10521) fun x10627 => Option.bind (geti y2 x10521) fun x10629 => Option.bind (geti y2 x10251) fun x10631 => Option.bind (m_spec_l01Far x10629.1 x10629.2 x10631.1 x10631.2) fun y10633 => Option.bind (m_spec_l00Min x10625 (wr (x10627 + y10633))) fun y10637 => Option.bind (geti x10599 x10251) fun x10641 => some (Ctl.next ((wr (x10521 + 1), l10522.set (Int.toNat x7113) (x10599.set (Int.toNat x10251) y10637)))) else some (Ctl.out l10522))
noncomputable def m_spec_l05Steiner_s33 (y2 : (List (Int × Int))) (x7113 : Int) (y9441 : (List (Int))) (s10261 : Int × (List (List (Int)))) : Option (Ctl (Int × (List (List (Int)))) ((List (List (Int))))) :=
  match s10261 with | (x10251, l10252) => (bif decide (x10251 < (((y2).length : Int))) then Option.bind (loopM (m_spec_l05Steiner_s34 y2 x7113 y9441 x10251) ((0, l10252))) fun (r10528 : (List (List (Int)))) => (fun (l10514 : List (List (Int))) => some (Ctl.next ((wr (x10251 + 1), l10514)))) r10528 else some (Ctl.out l10252))
noncomputable def m_spec_l05Steiner_s28 (l0 : List (Int × Int)) (y2 : (List (Int × Int))) (x7113 : Int) (s8674 : Int × (List (List (Int)))) : Option (Ctl (Int × (List (List (Int)))) ((List (List (Int))))) :=
  match s8674 with | (x8665, l8666) => (bif decide (x8665 < (((y2).length : Int))) then Option.bind (loopM (m_spec_l05Steiner_s29 l0 y2 x7113 x8665) (((-1), 0))) fun (r8835 : Int) => (fun (x8823 : Int) => Option.bind (loopM (m_spec_l05Steiner_s30 x7113 x8665 l8666) ((x8823, andI (wr (x7113 - 1)) x7113))) fun (r9242 : Int) => (fun (x9230 : Int) => Option.bind (geti l8666 x7113) fun x9404 => Option.bind (geti x9404 x8665) fun x9417 => some (Ctl.next ((wr (x8665 + 1), l8666.set (Int.toNat x7113) (x9404.set (Int.toNat x8665) x9230))))) r9242) r8835 else some (Ctl.out l8666))
noncomputable def m_spec_l05Steiner_s35 (l0 : List (Int × Int)) (y2 : (List (Int × Int))) (l7097 : List (List (Int))) (s10727 : Int × Int) : Option (Ctl (Int × Int) (Int)) :=
  match s10727 with | (x10720, x10721) => (bif decide (x10721 < (((y2).length : Int))) then Option.bind (geti l7097 (wr ((shlI 1 (wu (((l0).length : Int)))) - 1))) fun x10731 => Option.bind (geti x10731 x10721) fun x10744 => Option.bind (m_spec_l00Min x10720 x10744) fun y10746 => some (Ctl.next ((y10746, wr (x10721 + 1)))) else some (Ctl.out x10720))
noncomputable def m_spec_l05Steiner_s23 (l0 : List (Int × Int)) (y2 : (List (Int × Int))) (s7123 : (List (List (Int))) × Int) : Option (Ctl ((List (List (Int))) × Int) ((List (List (Int))))) :=
  match s7123 with | (l7107, x7113) => (bif decide (x7113 < (shlI 1 (wu (((l0).length : Int))))) then Option.bind (mkC (((y2).length : Int))) fun _ => Option.bind (geti l7107 x7113) fun x7136 => Option.bind (loopM (m_spec_l05Steiner_s28 l0 y2 x7113) ((0, l7107.set (Int.toNat x7113) (List.replicate (Int.toNat (((y2).length : Int))) ((0 : Int)))))) fun (r8671 : (List (List (Int)))) => (fun (l8659 : List (List (Int))) => Option.bind (geti l8659 x7113) fun x9428 => Option.bind (m_spec_l00Own x9428) fun y9441 => Option.bind (loopM (m_spec_l05Steiner_s33 y2 x7113 y9441) ((0, l8659))) fun (r10258 : (List (List (Int)))) => (fun (l10245 : List (List (Int))) => some (Ctl.next ((l10245, wr (x7113 + 1))))) r10258) r8671 else some (Ctl.out l7107))
noncomputable def m_spec_l05Steiner (l0 : List (Int × Int)) : Option ((Int)) :=
  Option.bind (m_spec_l05Hanan l0) fun y2 => Option.bind (p0C (wu (((l0).length : Int)))) fun u13 => Option.bind (mkC (shlI 1 (wu (((l0).length : Int))))) fun _ => Option.bind (loopM (m_spec_l05Steiner_s23 l0 y2) ((List.replicate (Int.toNat (shlI 1 (wu (((l0).length : Int))))) ([] : List (Int)), 1))) fun (r7120 : (List (List (Int)))) => (fun (l7097 : List (List (Int))) => Option.bind (geti l7097 (wr ((shlI 1 (wu (((l0).length : Int)))) - 1))) fun x10655 => Option.bind (geti x10655 0) fun x10668 => Option.bind (loopM (m_spec_l05Steiner_s35 l0 y2 l7097) ((x10668, 1))) fun (r10724 : Int) => (fun (x10717 : Int) => some x10717) r10724) r7120

noncomputable def m_spec_SteinerLength (l0 : List (Int × Int)) : Option ((Int) × (Bool)) :=
  Option.bind (m_spec_l05Few l0) fun y2 => (bif !y2 then some ((0, false)) else Option.bind (m_spec_l05Steiner l0) fun y7 => some ((y7, true)))

def m_slices_Clone_int64_int64 (l0 : List (Int)) : Option ((List (Int))) :=
  Option.bind (apC (([] : List (Int))) l0) fun _ => some ((([] : List (Int))) ++ l0)

noncomputable def m_impl_steiner_s30 (l5247 : List (List (Int))) (x5253 : Int) (x6470 : Int) (s6989 : Int × (List (Int))) : Option (Ctl (Int × (List (Int))) ((List (Int)))) :=
  match s6989 with | (x6979, l6980) => (bif decide (x6979 > 0) then Option.bind (geti l6980 x6470) fun x7036 => Option.bind (geti l5247 x6979) fun x7038 => Option.bind (geti x7038 x6470) fun x7048 => Option.bind (geti l5247 (andNI x5253 x6979)) fun x7050 => Option.bind (geti x7050 x6470) fun x7060 => Option.bind (geti l6980 x6470) fun x7062 => some (Ctl.next ((andI (wr (x6979 - 1)) x5253, l6980.set (Int.toNat x6470) (if (wr (x7048 + x7060)) < x7036 then (wr (x7048 + x7060)) else x7036)))) else some (Ctl.out l6980))
noncomputable def m_impl_steiner_s29 (l0 : List (Int × Int)) (x5253 : Int) (x6470 : Int) (x6484 : Int × Int) (s6714 : Int × (List (Int))) : Option (Ctl (Int × (List (Int))) ((List (Int)))) :=
  match s6714 with | (x6703, l6704) => (bif decide (x6703 < (wr ((((l0).length : Int)) - 1))) then Option.bind (Option.bind (p0C x6703) fun u6767 => (bif x5253 == (shlI 1 x6703) then Option.bind (geti l0 x6703) fun x6795 => Option.bind (m_impl_far x6484.1 x6484.2 x6795.1 x6795.2) fun y6797 => Option.bind (geti l6704 x6470) fun x6801 => some (l6704.set (Int.toNat x6470) y6797) else some l6704)) fun (s6765 : (List (Int))) => (fun (l6758 : List (Int)) => some (Ctl.next ((wr (x6703 + 1), l6758)))) s6765 else some (Ctl.out l6704))
noncomputable def m_impl_steiner_s34 (y2 : (List (Int × Int))) (l6463 : List (Int)) (x7592 : Int) (x7607 : Int × Int) (s7783 : Int × (List (Int))) : Option (Ctl (Int × (List (Int))) ((List (Int)))) :=
  match s7783 with | (x7771, l7772) => (bif decide (x7771 < (((y2).length : Int))) then Option.bind (geti y2 x7771) fun x7787 => Option.bind (geti l7772 x7592) fun x7834 => Option.bind (geti l6463 x7771) fun x7836 => Option.bind (m_impl_far x7607.1 x7607.2 x7787.1 x7787.2) fun y7838 => Option.bind (geti l7772 x7592) fun x7842 => some (Ctl.next ((wr (x7771 + 1), l7772.set (Int.toNat x7592) (if (wr (x7836 + y7838)) < x7834 then (wr (x7836 + y7838)) else x7834)))) else some (Ctl.out l7772))
noncomputable def m_impl_steiner_s33 (y2 : (List (Int × Int))) (l6463 : List (Int)) (s7603 : Int × (List (Int))) : Option (Ctl (Int × (List (Int))) ((List (Int)))) :=
  match s7603 with | (x7592, l7593) => (bif decide (x7592 < (((y2).length : Int))) then Option.bind (geti y2 x7592) fun x7607 => Option.bind (loopM (m_impl_steiner_s34 y2 l6463 x7592 x7607) ((0, l7593))) fun (r7780 : (List (Int))) => (fun (l7763 : List (Int)) => some (Ctl.next ((wr (x7592 + 1), l7763)))) r7780 else some (Ctl.out l7593))
noncomputable def m_impl_steiner_s28 (l0 : List (Int × Int)) (y2 : (List (Int × Int))) (l5247 : List (List (Int))) (x5253 : Int) (s6480 : Int × (List (Int))) : Option (Ctl (Int × (List (Int))) ((List (Int)))) :=
  match s6480 with | (x6470, l6471) => (bif decide (x6470 < (((y2).length : Int))) then Option.bind (geti y2 x6470) fun x6484 => Option.bind (geti l6471 x6470) fun x6498 => Option.bind (loopM (m_impl_steiner_s29 l0 x5253 x6470 x6484) ((0, l6471.set (Int.toNat x6470) 1000000000))) fun (r6711 : (List (Int))) => (fun (l6696 : List (Int)) => Option.bind (loopM (m_impl_steiner_s30 l5247 x5253 x6470) ((andI (wr (x5253 - 1)) x5253, l6696))) fun (r6986 : (List (Int))) => (fun (l6972 : List (Int)) => some (Ctl.next ((wr (x6470 + 1), l6972)))) r6986) r6711 else some (Ctl.out l6471))
noncomputable def m_impl_steiner_s23 (l0 : List (Int × Int)) (y2 : (List (Int × Int))) (s5263 : (List (List (Int))) × Int) : Option (Ctl ((List (List (Int))) × Int) ((List (List (Int))))) :=
  match s5263 with | (l5247, x5253) => Option.bind (p0C (wr ((((l0).length : Int)) - 1))) fun u5266 => (bif decide (x5253 < (shlI 1 (wr ((((l0).length : Int)) - 1)))) then Option.bind (mkC (((y2).length : Int))) fun _ => Option.bind (loopM (m_impl_steiner_s28 l0 y2 l5247 x5253) ((0, List.replicate (Int.toNat (((y2).length : Int))) ((0 : Int))))) fun (r6477 : (List (Int))) => (fun (l6463 : List (Int)) => Option.bind (m_slices_Clone_int64_int64 l6463) fun y7070 => Option.bind (loopM (m_impl_steiner_s33 y2 l6463) ((0, y7070))) fun (r7600 : (List (Int))) => (fun (l7585 : List (Int)) => Option.bind (geti l5247 x5253) fun x7850 => some (Ctl.next ((l5247.set (Int.toNat x5253) l7585, wr (x5253 + 1))))) r7600) r6477 else some (Ctl.out l5247))
noncomputable def m_impl_steiner (l0 : List (Int × Int)) : Option ((Int)) :=
  Option.bind (m_impl_hanan l0) fun y2 => (bif (wr ((((l0).length : Int)) - 1)) == 0 then some 0 else Option.bind (p0C (wr ((((l0).length : Int)) - 1))) fun u14 => Option.bind (mkC (shlI 1 (wr ((((l0).length : Int)) - 1)))) fun _ => Option.bind (loopM (m_impl_steiner_s23 l0 y2) ((List.replicate (Int.toNat (shlI 1 (wr ((((l0).length : Int)) - 1)))) ([] : List (Int)), 1))) fun (r5260 : (List (List (Int)))) => (fun (l5234 : List (List (Int))) => Option.bind (p0C (wr ((((l0).length : Int)) - 1))) fun u7893 => Option.bind (geti l5234 (wr ((shlI 1 (wr ((((l0).length : Int)) - 1))) - 1))) fun x7895 => Option.bind (geti l0 (wr ((((l0).length : Int)) - 1))) fun x7905 => Option.bind (m_slices_Index_impl_Point_impl_Point y2 x7905.1 x7905.2) fun y7907 => Option.bind (geti x7895 y7907) fun x7911 => some x7911) r5260)

noncomputable def m_impl_SteinerLength (l0 : List (Int × Int)) : Option ((Int) × (Bool)) :=
  Option.bind (m_impl_pinsOk l0 7) fun y2 => (bif !y2 then some ((0, false)) else Option.bind (m_impl_steiner l0) fun y7 => some ((y7, true)))

noncomputable def m_laws_FnExactSteinerLength (l0 : List (Int × Int)) : Option ((Bool)) :=
  Option.bind (m_laws_szPointS l0 1048576) fun y2 => (bif decide (y2 < 0) then some true else Option.bind (m_laws_toPointS l0) fun y7 => Option.bind (m_spec_SteinerLength y7) fun y18 => Option.bind (m_laws_toPointS l0) fun y22 => Option.bind (m_impl_SteinerLength y22) fun y34 => (bif y34.1 != y18.1 then some false else (bif !(y34.2 == y18.2) then some false else Option.bind (m_laws_toPointS l0) fun y41 => Option.bind (m_laws_eqPointS y22 y41) fun y54 => (bif !y54 then some false else some true))))

def m_spec_l01Sign (p0 : Int) : Option ((Int)) :=
  (bif decide (p0 < 0) then some ((-1)) else (bif decide (p0 > 0) then some 1 else some 0))

noncomputable def m_spec_l01Through_s6 (x1535 : Int × Int) (s1830 : (List (Int × Int)) × Int × Int) : Option (Ctl ((List (Int × Int)) × Int × Int) ((List (Int × Int)))) :=
  match s1830 with | (l1808, x1814, x1815) => (bif !(x1814 == x1535.1 && x1815 == x1535.2) then (bif decide ((((l1808).length : Int)) ≤ 576) then Option.bind (m_spec_l01Sign (wr (x1535.1 - x1814))) fun y1854 => Option.bind (m_spec_l01Sign (wr (x1535.2 - x1815))) fun y1880 => Option.bind (apC l1808 (([(wr (x1814 + y1854), wr (x1815 + y1880))] : List (Int × Int)))) fun _ => some (Ctl.next ((l1808 ++ (([(wr (x1814 + y1854), wr (x1815 + y1880))] : List (Int × Int))), wr (x1814 + y1854), wr (x1815 + y1880)))) else some (Ctl.out l1808)) else some (Ctl.out l1808))
noncomputable def m_spec_l01Through_s7 (x1535 : Int × Int) (s2176 : (List (Int × Int)) × Int × Int) : Option (Ctl ((List (Int × Int)) × Int × Int) ((List (Int × Int)))) :=
  match s2176 with | (l2154, x2160, x2161) => (bif !(x2160 == x1535.1 && x2161 == x1535.2) then (bif decide ((((l2154).length : Int)) ≤ 576) then Option.bind (m_spec_l01Sign (wr (x1535.1 - x2160))) fun y2200 => Option.bind (m_spec_l01Sign (wr (x1535.2 - x2161))) fun y2226 => Option.bind (apC l2154 (([(wr (x2160 + y2200), wr (x2161 + y2226))] : List (Int × Int)))) fun _ => some (Ctl.next ((l2154 ++ (([(wr (x2160 + y2200), wr (x2161 + y2226))] : List (Int × Int))), wr (x2160 + y2200), wr (x2161 + y2226)))) else some (Ctl.out l2154)) else some (Ctl.out l2154))
noncomputable def m_spec_l01Through_s8 (l0 : List (Int × Int)) (y2277 : (List (Int × Int))) (s2351 : Int) : Option (Ctl (Int) (Sum (Unit) ((List (Int × Int)) × (Bool)))) :=
  (fun (x2343 : Int) => (bif decide (x2343 < (((y2277).length : Int))) then Option.bind (geti y2277 x2343) fun x2369 => Option.bind (geti l0 x2343) fun x2371 => (bif !(x2369.1 == x2371.1 && x2369.2 == x2371.2) then some (Ctl.out (Sum.inr (([], false)))) else some (Ctl.next (wr (x2343 + 1)))) else some (Ctl.out (Sum.inl (()))))) s2351
noncomputable def m_spec_l01Through_s5 (l0 : List (Int × Int)) (s1531 : (List (Int × Int)) × Int) : Option (Ctl ((List (Int × Int)) × Int) (Sum ((List (Int × Int))) ((List (Int × Int)) × (Bool)))) :=
  match s1531 with | (l1518, x1523) => (bif decide (x1523 < (((l0).length : Int))) then Option.bind (geti l0 x1523) fun x1535 => Option.bind (m_spec_l01Point x1535.1 x1535.2) fun y1567 => (bif !y1567 then some (Ctl.out (Sum.inr (([], false)))) else Option.bind (geti l0 (wr (x1523 - 1))) fun x1573 => (bif x1535.1 != x1573.1 then Option.bind (geti l0 (wr (x1523 - 1))) fun x1576 => (bif x1535.2 != x1576.2 then some (Ctl.out (Sum.inr (([], false)))) else Option.bind (geti l0 (wr (x1523 - 1))) fun x1580 => Option.bind (loopM (m_spec_l01Through_s6 x1535) ((l1518, x1580.1, x1580.2))) fun (r1827 : (List (Int × Int))) => (fun (l1798 : List (Int × Int)) => some (Ctl.next ((l1798, wr (x1523 + 1))))) r1827) else Option.bind (geti l0 (wr (x1523 - 1))) fun x1926 => Option.bind (loopM (m_spec_l01Through_s7 x1535) ((l1518, x1926.1, x1926.2))) fun (r2173 : (List (Int × Int))) => (fun (l2144 : List (Int × Int)) => some (Ctl.next ((l2144, wr (x1523 + 1))))) r2173)) else some (Ctl.out (Sum.inl l1518)))
noncomputable def m_spec_l01Through (l0 : List (Int × Int)) : Option ((List (Int × Int)) × (Bool)) :=
  (bif (((l0).length : Int)) == 0 then some (([], false)) else (bif decide ((((l0).length : Int)) > 576) then some (([], false)) else Option.bind (geti l0 0) fun x4 => Option.bind (m_spec_l01Point x4.1 x4.2) fun y6 => (bif !y6 then some (([], false)) else Option.bind (geti l0 0) fun x11 => Option.bind (loopM (m_spec_l01Through_s5 l0) ((([(x11.1, x11.2)] : List (Int × Int)), 1))) fun (r1528 : Sum ((List (Int × Int))) ((List (Int × Int)) × (Bool))) => match r1528 with | Sum.inl q2378 => ((fun (l1508 : List (Int × Int)) => Option.bind (m_spec_l01Path l1508) fun y2272 => (bif !y2272 then some (([], false)) else Option.bind (m_spec_l01Corners l1508) fun y2277 => (bif (((y2277).length : Int)) != (((l0).length : Int)) then some (([], false)) else Option.bind (loopM (m_spec_l01Through_s8 l0 y2277) 0) fun (r2348 : Sum (Unit) ((List (Int × Int)) × (Bool))) => match r2348 with | Sum.inl q2376 => (some ((l1508, true))) | Sum.inr v2375 => some v2375))) q2378) | Sum.inr v2377 => some v2377)))

noncomputable def m_spec_PathThrough (l0 : List (Int × Int)) : Option ((List (Int × Int)) × (Bool)) :=
  Option.bind (m_spec_l01Through l0) fun y2 => some ((y2.1, y2.2))

noncomputable def m_laws_FnExactPathThrough (l0 : List (Int × Int)) : Option ((Bool)) :=
  Option.bind (m_laws_szPointS l0 1048576) fun y2 => (bif decide (y2 < 0) then some true else Option.bind (m_laws_toPointS l0) fun y7 => Option.bind (m_spec_PathThrough y7) fun y18 => Option.bind (m_laws_toPointS l0) fun y30 => Option.bind (m_impl_PathThrough y30) fun y43 => Option.bind (m_laws_eqPointS y43.1 y18.1) fun y58 => (bif !y58 then some false else (bif !(y43.2 == y18.2) then some false else Option.bind (m_laws_toPointS l0) fun y64 => Option.bind (m_laws_eqPointS y30 y64) fun y79 => (bif !y79 then some false else Option.bind (m_laws_markPointS y30 1) fun y84 => (bif decide (y84.1 < 0) then some false else Option.bind (m_laws_eqPointS y43.1 y18.1) fun y92 => (bif !y92 then some false else (bif !(y43.2 == y18.2) then some false else Option.bind (m_laws_markPointS y43.1 1) fun y98 => Option.bind (m_laws_heldPointS y98.2 1) fun y105 => (bif decide (y105 < 0) then some false else (bif y105 != y98.1 then some false else Option.bind (m_laws_toPointS l0) fun y111 => Option.bind (m_impl_PathThrough y111) fun y127 => Option.bind (m_laws_eqPointS y127.1 y18.1) fun y144 => (bif !y144 then some false else (bif !(y127.2 == y18.2) then some false else Option.bind (m_laws_heldPointS y98.2 1) fun y152 => (bif decide (y152 < 0) then some false else (bif y152 != y98.1 then some false else some true)))))))))))))

def m_spec_l03Less_s1 (l0 : List (Int)) (l1 : List (Int)) (s94 : Int) : Option (Ctl (Int) (Sum (Unit) ((Bool)))) :=
  (fun (x87 : Int) => (bif decide (x87 < (((l0).length : Int))) then (bif decide (x87 < (((l1).length : Int))) then Option.bind (geti l0 x87) fun x111 => Option.bind (geti l1 x87) fun x113 => (bif x111 != x113 then Option.bind (geti l0 x87) fun x128 => Option.bind (geti l1 x87) fun x130 => some (Ctl.out (Sum.inr (decide (x128 < x130)))) else some (Ctl.next (wr (x87 + 1)))) else some (Ctl.out (Sum.inl (())))) else some (Ctl.out (Sum.inl (()))))) s94
noncomputable def m_spec_l03Less (l0 : List (Int)) (l1 : List (Int)) : Option ((Bool)) :=
  Option.bind (loopM (m_spec_l03Less_s1 l0 l1) 0) fun (r91 : Sum (Unit) ((Bool))) => match r91 with | Sum.inl q136 => (some (decide ((((l0).length : Int)) < (((l1).length : Int))))) | Sum.inr v135 => some v135

noncomputable def m_spec_l05Pairs_ids_s4 (rw : Nat → List Int) (l0 : List (Nat)) (l517 : List (Nat)) (x522 : Int) (s617 : Int) : Option (Ctl (Int) (Int)) :=
  (fun (x609 : Int) => (bif decide (x609 < (((l517).length : Int))) then Option.bind (geti l517 x609) fun x640 => Option.bind (geti l0 x522) fun x642 => Option.bind (m_spec_l03Less (rw x640) (rw x642)) fun y644 => (bif y644 then some (Ctl.next (wr (x609 + 1))) else some (Ctl.out x609)) else some (Ctl.out x609))) s617
noncomputable def m_spec_l05Pairs_ids_s3 (rw : Nat → List Int) (l0 : List (Nat)) (s531 : (List (Nat)) × Int) : Option (Ctl ((List (Nat)) × Int) ((List (Nat)))) :=
  match s531 with | (l517, x522) => (bif decide (x522 < (((l0).length : Int))) then Option.bind (loopM (m_spec_l05Pairs_ids_s4 rw l0 l517 x522) 0) fun (r614 : Int) => (fun (x603 : Int) => Option.bind (slci l517 x603 (((l517).length : Int))) fun _ => Option.bind (apC (([] : List (Nat))) (slc l517 x603 (((l517).length : Int)))) fun _ => Option.bind (slci l517 0 x603) fun _ => Option.bind (geti l0 x522) fun x739 => Option.bind (apC (l517.take (Int.toNat x603)) (([x739] : List (Nat)))) fun _ => Option.bind (apC ((l517.take (Int.toNat x603)) ++ (([x739] : List (Nat)))) ((([] : List (Nat))) ++ (slc l517 x603 (((l517).length : Int))))) fun _ => some (Ctl.next ((((l517.take (Int.toNat x603)) ++ (([x739] : List (Nat)))) ++ ((([] : List (Nat))) ++ (slc l517 x603 (((l517).length : Int)))), wr (x522 + 1))))) r614 else some (Ctl.out l517))
noncomputable def m_spec_l05Pairs_ids (rw : Nat → List Int) (l0 : List (Nat)) : Option ((List (Nat))) :=
  Option.bind (loopM (m_spec_l05Pairs_ids_s3 rw l0) ((([] : List (Nat)), 0))) fun (r528 : (List (Nat))) => (fun (l507 : List (Nat)) => some l507) r528

noncomputable def m_spec_l05Pairs (l0 : List (List (Int))) : Option (List (List (Int))) :=
  Option.bind (m_spec_l05Pairs_ids (fun i => l0.getD i []) (List.range l0.length)) fun r => Option.bind (chk (decide (r.Perm (List.range l0.length)))) fun _ => some (r.map fun i => l0.getD i [])

noncomputable def m_spec_SpanningTree (l0 : List (Int × Int)) : Option ((List (List (Int))) × (Int) × (Bool)) :=
  Option.bind (m_spec_l05Is l0) fun y2 => (bif !y2 then some (([], 0, false)) else Option.bind (m_spec_l05Tree l0) fun y7 => Option.bind (m_spec_l05Pairs y7.1) fun y18 => some ((y18, y7.2, true)))

noncomputable def m_impl_SpanningTree (l0 : List (Int × Int)) : Option ((List (List (Int))) × (Int) × (Bool)) :=
  Option.bind (m_impl_ArePins l0) fun y2 => (bif !y2 then some (([], 0, false)) else Option.bind (m_impl_spanning l0) fun y7 => some ((y7.1, y7.2, true)))

def m_laws_eqInt64S_s1 (l0 : List (Int)) (l1 : List (Int)) (s57 : Int) : Option (Ctl (Int) (Sum (Unit) ((Bool)))) :=
  (fun (x50 : Int) => (bif decide (x50 < (((l0).length : Int))) then Option.bind (geti l0 x50) fun x73 => Option.bind (geti l1 x50) fun x75 => (bif x73 != x75 then some (Ctl.out (Sum.inr false)) else some (Ctl.next (wr (x50 + 1)))) else some (Ctl.out (Sum.inl (()))))) s57
noncomputable def m_laws_eqInt64S (l0 : List (Int)) (l1 : List (Int)) : Option ((Bool)) :=
  (bif (((l0).length : Int)) != (((l1).length : Int)) then some false else Option.bind (loopM (m_laws_eqInt64S_s1 l0 l1) 0) fun (r54 : Sum (Unit) ((Bool))) => match r54 with | Sum.inl q80 => (some true) | Sum.inr v79 => some v79)

noncomputable def m_laws_eqInt64SS_s1 (l0 : List (List (Int))) (l1 : List (List (Int))) (s121 : Int) : Option (Ctl (Int) (Sum (Unit) ((Bool)))) :=
  (fun (x114 : Int) => (bif decide (x114 < (((l0).length : Int))) then Option.bind (geti l0 x114) fun x153 => Option.bind (geti l1 x114) fun x161 => Option.bind (m_laws_eqInt64S x153 x161) fun y169 => (bif !y169 then some (Ctl.out (Sum.inr false)) else some (Ctl.next (wr (x114 + 1)))) else some (Ctl.out (Sum.inl (()))))) s121
noncomputable def m_laws_eqInt64SS (l0 : List (List (Int))) (l1 : List (List (Int))) : Option ((Bool)) :=
  (bif (((l0).length : Int)) != (((l1).length : Int)) then some false else Option.bind (loopM (m_laws_eqInt64SS_s1 l0 l1) 0) fun (r118 : Sum (Unit) ((Bool))) => match r118 with | Sum.inl q176 => (some true) | Sum.inr v175 => some v175)

def m_laws_markInt64S_s1  (s40 : Int × Int × (List (Int))) : Option (Ctl (Int × Int × (List (Int))) (Int × (List (Int)))) :=
  match s40 with | (x31, x32, l33) => (bif decide (x32 < (((l33).length : Int))) then Option.bind (geti l33 x32) fun x44 => some (Ctl.next ((wr (x31 + 1), wr (x32 + 1), l33.set (Int.toNat x32) x31))) else some (Ctl.out ((x31, l33))))
noncomputable def m_laws_markInt64S (l0 : List (Int)) (p1 : Int) : Option ((Int) × (List (Int))) :=
  Option.bind (loopM (m_laws_markInt64S_s1) ((p1, 0, l0))) fun (r37 : Int × (List (Int))) => match r37 with | (x25, l26) => some ((x25, l26))

noncomputable def m_laws_markInt64SS_s1  (s70 : Int × Int × (List (List (Int)))) : Option (Ctl (Int × Int × (List (List (Int)))) (Int × (List (List (Int))))) :=
  match s70 with | (x61, x62, l63) => (bif decide (x62 < (((l63).length : Int))) then Option.bind (geti l63 x62) fun x74 => Option.bind (m_laws_markInt64S x74 x61) fun y86 => some (Ctl.next ((y86.1, wr (x62 + 1), l63.set (Int.toNat x62) y86.2))) else some (Ctl.out ((x61, l63))))
noncomputable def m_laws_markInt64SS (l0 : List (List (Int))) (p1 : Int) : Option ((Int) × (List (List (Int)))) :=
  Option.bind (loopM (m_laws_markInt64SS_s1) ((p1, 0, l0))) fun (r67 : Int × (List (List (Int)))) => match r67 with | (x55, l56) => some ((x55, l56))

def m_laws_heldInt64S_s1 (l0 : List (Int)) (s27 : Int × Int) : Option (Ctl (Int × Int) (Sum (Int) ((Int)))) :=
  match s27 with | (x20, x21) => (bif decide (x21 < (((l0).length : Int))) then Option.bind (geti l0 x21) fun x31 => (bif x31 != x20 then some (Ctl.out (Sum.inr ((-1)))) else some (Ctl.next ((wr (x20 + 1), wr (x21 + 1))))) else some (Ctl.out (Sum.inl x20)))
noncomputable def m_laws_heldInt64S (l0 : List (Int)) (p1 : Int) : Option ((Int)) :=
  Option.bind (loopM (m_laws_heldInt64S_s1 l0) ((p1, 0))) fun (r24 : Sum (Int) ((Int))) => match r24 with | Sum.inl q36 => ((fun (x17 : Int) => some x17) q36) | Sum.inr v35 => some v35

noncomputable def m_laws_heldInt64SS_s1 (l0 : List (List (Int))) (s47 : Int × Int) : Option (Ctl (Int × Int) (Sum (Int) ((Int)))) :=
  match s47 with | (x40, x41) => (bif decide (x41 < (((l0).length : Int))) then Option.bind (geti l0 x41) fun x51 => Option.bind (m_laws_heldInt64S x51 x40) fun y59 => (bif decide (y59 < 0) then some (Ctl.out (Sum.inr ((-1)))) else some (Ctl.next ((y59, wr (x41 + 1))))) else some (Ctl.out (Sum.inl x40)))
noncomputable def m_laws_heldInt64SS (l0 : List (List (Int))) (p1 : Int) : Option ((Int)) :=
  Option.bind (loopM (m_laws_heldInt64SS_s1 l0) ((p1, 0))) fun (r44 : Sum (Int) ((Int))) => match r44 with | Sum.inl q66 => ((fun (x37 : Int) => some x37) q66) | Sum.inr v65 => some v65

noncomputable def m_laws_FnExactSpanningTree (l0 : List (Int × Int)) : Option ((Bool)) :=
  Option.bind (m_laws_szPointS l0 1048576) fun y2 => (bif decide (y2 < 0) then some true else Option.bind (m_laws_toPointS l0) fun y7 => Option.bind (m_spec_SpanningTree y7) fun y18 => Option.bind (m_laws_toPointS l0) fun y30 => Option.bind (m_impl_SpanningTree y30) fun y43 => Option.bind (m_laws_eqInt64SS y43.1 y18.1) fun y58 => (bif !y58 then some false else (bif y43.2.1 != y18.2.1 then some false else (bif !(y43.2.2 == y18.2.2) then some false else Option.bind (m_laws_toPointS l0) fun y65 => Option.bind (m_laws_eqPointS y30 y65) fun y80 => (bif !y80 then some false else Option.bind (m_laws_markPointS y30 1) fun y86 => (bif decide (y86.1 < 0) then some false else Option.bind (m_laws_eqInt64SS y43.1 y18.1) fun y94 => (bif !y94 then some false else (bif y43.2.1 != y18.2.1 then some false else (bif !(y43.2.2 == y18.2.2) then some false else Option.bind (m_laws_markInt64SS y43.1 1) fun y104 => Option.bind (m_laws_heldInt64SS y104.2 1) fun y110 => (bif decide (y110 < 0) then some false else (bif y110 != y104.1 then some false else Option.bind (m_laws_toPointS l0) fun y116 => Option.bind (m_impl_SpanningTree y116) fun y132 => Option.bind (m_laws_eqInt64SS y132.1 y18.1) fun y150 => (bif !y150 then some false else (bif y132.2.1 != y18.2.1 then some false else (bif !(y132.2.2 == y18.2.2) then some false else Option.bind (m_laws_heldInt64SS y104.2 1) fun y157 => (bif decide (y157 < 0) then some false else (bif y157 != y104.1 then some false else some true))))))))))))))))

noncomputable def m_laws_szPointSS_s1 (l0 : List (List (Int × Int))) (s48 : Int × Int) : Option (Ctl (Int × Int) (Sum (Int) ((Int)))) :=
  match s48 with | (x41, x42) => (bif decide (x42 < (((l0).length : Int))) then Option.bind (geti l0 x42) fun x52 => Option.bind (m_laws_szPointS x52 x41) fun y60 => (bif decide (y60 < 0) then some (Ctl.out (Sum.inr ((-1)))) else some (Ctl.next ((y60, wr (x42 + 1))))) else some (Ctl.out (Sum.inl x41)))
noncomputable def m_laws_szPointSS (l0 : List (List (Int × Int))) (p1 : Int) : Option ((Int)) :=
  (bif decide ((wr (p1 - (((l0).length : Int)))) < 0) then some ((-1)) else Option.bind (loopM (m_laws_szPointSS_s1 l0) ((wr (p1 - (((l0).length : Int))), 0))) fun (r45 : Sum (Int) ((Int))) => match r45 with | Sum.inl q67 => ((fun (x38 : Int) => some x38) q67) | Sum.inr v66 => some v66)

noncomputable def m_spec_AreApart_s4 (y315 : (List (Int × Int)) × (Bool)) (s409 : Int × (List (Bool))) : Option (Ctl (Int × (List (Bool))) (Sum ((List (Bool))) ((Bool)))) :=
  match s409 with | (x400, l401) => (bif decide (x400 < (((y315.1).length : Int))) then Option.bind (geti y315.1 x400) fun x427 => Option.bind (geti y315.1 x400) fun x429 => Option.bind (geti l401 (wr ((wr (x427.1 * 100)) + x429.2))) fun x431 => (bif x431 then some (Ctl.out (Sum.inr false)) else Option.bind (geti l401 (wr ((wr (x427.1 * 100)) + x429.2))) fun x435 => some (Ctl.next ((wr (x400 + 1), l401.set (Int.toNat (wr ((wr (x427.1 * 100)) + x429.2))) true)))) else some (Ctl.out (Sum.inl l401)))
noncomputable def m_spec_AreApart_s3 (l0 : List (List (Int × Int))) (s303 : Int × (List (Bool))) : Option (Ctl (Int × (List (Bool))) (Sum (Unit) ((Bool)))) :=
  match s303 with | (x295, l296) => (bif decide (x295 < (((l0).length : Int))) then Option.bind (geti l0 x295) fun x307 => Option.bind (m_spec_l01Through x307) fun y315 => (bif !y315.2 then some (Ctl.out (Sum.inr false)) else Option.bind (loopM (m_spec_AreApart_s4 y315) ((0, l296))) fun (r406 : Sum ((List (Bool))) ((Bool))) => match r406 with | Sum.inl q442 => ((fun (l395 : List (Bool)) => some (Ctl.next ((wr (x295 + 1), l395)))) q442) | Sum.inr v441 => some (Ctl.out (Sum.inr v441))) else some (Ctl.out (Sum.inl (()))))
noncomputable def m_spec_AreApart (l0 : List (List (Int × Int))) : Option ((Bool)) :=
  (bif decide ((((l0).length : Int)) > 20) then some false else Option.bind (mkC 10000) fun _ => Option.bind (loopM (m_spec_AreApart_s3 l0) ((0, List.replicate (Int.toNat 10000) ((false : Bool))))) fun (r300 : Sum (Unit) ((Bool))) => match r300 with | Sum.inl q445 => (some true) | Sum.inr v444 => some v444)

noncomputable def m_laws_toPointSS_s1 (l0 : List (List (Int × Int))) (s112 : (List (List (Int × Int))) × Int) : Option (Ctl ((List (List (Int × Int))) × Int) ((List (List (Int × Int))))) :=
  match s112 with | (l98, x104) => (bif decide (x104 < (((l0).length : Int))) then Option.bind (geti l0 x104) fun x116 => Option.bind (m_laws_toPointS x116) fun y124 => Option.bind (geti l98 x104) fun x136 => some (Ctl.next ((l98.set (Int.toNat x104) y124, wr (x104 + 1)))) else some (Ctl.out l98))
noncomputable def m_laws_toPointSS (l0 : List (List (Int × Int))) : Option ((List (List (Int × Int)))) :=
  Option.bind (mkC (((l0).length : Int))) fun _ => Option.bind (loopM (m_laws_toPointSS_s1 l0) ((List.replicate (Int.toNat (((l0).length : Int))) ([] : List (Int × Int)), 0))) fun (r109 : (List (List (Int × Int)))) => (fun (l88 : List (List (Int × Int))) => some l88) r109

noncomputable def m_impl_AreApart_s1 (l0 : List (List (Int × Int))) (s111 : (List (Int × Int)) × Int) : Option (Ctl ((List (Int × Int)) × Int) (Sum ((List (Int × Int))) ((Bool)))) :=
  match s111 with | (l98, x103) => (bif decide (x103 < (((l0).length : Int))) then Option.bind (geti l0 x103) fun x115 => Option.bind (m_impl_through x115) fun y123 => (bif !y123.2 then some (Ctl.out (Sum.inr false)) else Option.bind (apC l98 y123.1) fun _ => some (Ctl.next ((l98 ++ y123.1, wr (x103 + 1))))) else some (Ctl.out (Sum.inl l98)))
noncomputable def m_impl_AreApart (l0 : List (List (Int × Int))) : Option ((Bool)) :=
  (bif decide ((((l0).length : Int)) > 20) then some false else Option.bind (loopM (m_impl_AreApart_s1 l0) ((([] : List (Int × Int)), 0))) fun (r108 : Sum ((List (Int × Int))) ((Bool))) => match r108 with | Sum.inl q174 => ((fun (l89 : List (Int × Int)) => Option.bind (m_slices_Clone_impl_Point_impl_Point l89) fun y148 => Option.bind (m_impl_sorted y148) fun y160 => some ((((y160).length : Int)) == (((l89).length : Int)))) q174) | Sum.inr v173 => some v173)

noncomputable def m_laws_eqPointSS_s1 (l0 : List (List (Int × Int))) (l1 : List (List (Int × Int))) (s121 : Int) : Option (Ctl (Int) (Sum (Unit) ((Bool)))) :=
  (fun (x114 : Int) => (bif decide (x114 < (((l0).length : Int))) then Option.bind (geti l0 x114) fun x153 => Option.bind (geti l1 x114) fun x161 => Option.bind (m_laws_eqPointS x153 x161) fun y169 => (bif !y169 then some (Ctl.out (Sum.inr false)) else some (Ctl.next (wr (x114 + 1)))) else some (Ctl.out (Sum.inl (()))))) s121
noncomputable def m_laws_eqPointSS (l0 : List (List (Int × Int))) (l1 : List (List (Int × Int))) : Option ((Bool)) :=
  (bif (((l0).length : Int)) != (((l1).length : Int)) then some false else Option.bind (loopM (m_laws_eqPointSS_s1 l0 l1) 0) fun (r118 : Sum (Unit) ((Bool))) => match r118 with | Sum.inl q176 => (some true) | Sum.inr v175 => some v175)

noncomputable def m_laws_FnExactAreApart (l0 : List (List (Int × Int))) : Option ((Bool)) :=
  Option.bind (m_laws_szPointSS l0 1048576) fun y2 => (bif decide (y2 < 0) then some true else Option.bind (m_laws_toPointSS l0) fun y7 => Option.bind (m_spec_AreApart y7) fun y18 => Option.bind (m_laws_toPointSS l0) fun y22 => Option.bind (m_impl_AreApart y22) fun y34 => (bif !(y34 == y18) then some false else Option.bind (m_laws_toPointSS l0) fun y39 => Option.bind (m_laws_eqPointSS y22 y39) fun y52 => (bif !y52 then some false else some true)))

noncomputable def m_spec_l07Paths_s1 (l0 : List (List (Int × Int))) (s63 : Int) : Option (Ctl (Int) (Sum (Unit) ((Bool)))) :=
  (fun (x57 : Int) => (bif decide (x57 < (((l0).length : Int))) then Option.bind (geti l0 x57) fun x67 => (bif decide ((((x67).length : Int)) < 2) then some (Ctl.out (Sum.inr false)) else Option.bind (geti l0 x57) fun x76 => Option.bind (m_spec_l01Path x76) fun y84 => (bif !y84 then some (Ctl.out (Sum.inr false)) else some (Ctl.next (wr (x57 + 1))))) else some (Ctl.out (Sum.inl (()))))) s63
noncomputable def m_spec_l07Paths (l0 : List (List (Int × Int))) : Option ((Bool)) :=
  Option.bind (loopM (m_spec_l07Paths_s1 l0) 0) fun (r60 : Sum (Unit) ((Bool))) => match r60 with | Sum.inl q91 => (some (decide ((((l0).length : Int)) ≤ 6))) | Sum.inr v90 => some v90

noncomputable def m_spec_l07Segments_s4 (x319 : Int) (y339 : (List (Int × Int))) (s441 : (List (List (Int))) × Int) : Option (Ctl ((List (List (Int))) × Int) ((List (List (Int))))) :=
  match s441 with | (l427, x433) => (bif decide (x433 < (((y339).length : Int))) then Option.bind (apC l427 (([([x319, wr (x433 - 1), x433] : List (Int))] : List (List (Int))))) fun _ => some (Ctl.next ((l427 ++ (([([x319, wr (x433 - 1), x433] : List (Int))] : List (List (Int)))), wr (x433 + 1)))) else some (Ctl.out l427))
noncomputable def m_spec_l07Segments_s3 (l0 : List (List (Int × Int))) (s327 : (List (List (Int))) × Int) : Option (Ctl ((List (List (Int))) × Int) ((List (List (Int))))) :=
  match s327 with | (l313, x319) => (bif decide (x319 < (((l0).length : Int))) then Option.bind (geti l0 x319) fun x331 => Option.bind (m_spec_l01Corners x331) fun y339 => Option.bind (loopM (m_spec_l07Segments_s4 x319 y339) ((l313, 1))) fun (r438 : (List (List (Int)))) => (fun (l416 : List (List (Int))) => some (Ctl.next ((l416, wr (x319 + 1))))) r438 else some (Ctl.out l313))
noncomputable def m_spec_l07Segments (l0 : List (List (Int × Int))) : Option ((List (List (Int)))) :=
  Option.bind (loopM (m_spec_l07Segments_s3 l0) ((([] : List (List (Int))), 0))) fun (r324 : (List (List (Int)))) => (fun (l303 : List (List (Int))) => some l303) r324

noncomputable def m_spec_SegmentsOf (l0 : List (List (Int × Int))) : Option ((List (List (Int))) × (Bool)) :=
  Option.bind (m_spec_l07Paths l0) fun y2 => (bif !y2 then some (([], false)) else Option.bind (m_spec_l07Segments l0) fun y7 => some ((y7, true)))

noncomputable def m_impl_pathsOk_1 (l0 : List (Int × Int)) : Option ((Bool)) :=
  (bif decide ((((l0).length : Int)) < 2) then some true else Option.bind (m_impl_IsPath l0) fun y3 => some (!y3))

noncomputable def m_slices_IndexFunc_impl_Point_impl_Point_impl_pathsOk_1_s1 (l0 : List (List (Int × Int))) (s44 : Int) : Option (Ctl (Int) (Sum (Unit) ((Int)))) :=
  (fun (x38 : Int) => (bif decide (x38 < (((l0).length : Int))) then Option.bind (geti l0 x38) fun x48 => Option.bind (m_impl_pathsOk_1 x48) fun y56 => (bif y56 then some (Ctl.out (Sum.inr x38)) else some (Ctl.next (wr (x38 + 1)))) else some (Ctl.out (Sum.inl (()))))) s44
noncomputable def m_slices_IndexFunc_impl_Point_impl_Point_impl_pathsOk_1 (l0 : List (List (Int × Int))) : Option ((Int)) :=
  Option.bind (loopM (m_slices_IndexFunc_impl_Point_impl_Point_impl_pathsOk_1_s1 l0) 0) fun (r41 : Sum (Unit) ((Int))) => match r41 with | Sum.inl q63 => (some ((-1))) | Sum.inr v62 => some v62

noncomputable def m_slices_ContainsFunc_impl_Point_impl_Point_impl_pathsOk_1 (l0 : List (List (Int × Int))) : Option ((Bool)) :=
  Option.bind (m_slices_IndexFunc_impl_Point_impl_Point_impl_pathsOk_1 l0) fun y2 => some (decide (y2 ≥ 0))

noncomputable def m_impl_pathsOk (l0 : List (List (Int × Int))) : Option ((Bool)) :=
  (bif decide ((((l0).length : Int)) ≤ 6) then Option.bind (m_slices_ContainsFunc_impl_Point_impl_Point_impl_pathsOk_1 l0) fun y3 => some (!y3) else some false)

noncomputable def m_impl_segments_s4 (x391 : Int) (x403 : List (Int × Int)) (s534 : (List (List (Int))) × Int) : Option (Ctl ((List (List (Int))) × Int) ((List (List (Int))))) :=
  match s534 with | (l519, x525) => Option.bind (m_impl_corners x403) fun y537 => (bif decide (x525 < (((y537).length : Int))) then Option.bind (apC l519 (([([x391, wr (x525 - 1), x525] : List (Int))] : List (List (Int))))) fun _ => some (Ctl.next ((l519 ++ (([([x391, wr (x525 - 1), x525] : List (Int))] : List (List (Int)))), wr (x525 + 1)))) else some (Ctl.out l519))
noncomputable def m_impl_segments_s3 (l0 : List (List (Int × Int))) (s399 : (List (List (Int))) × Int) : Option (Ctl ((List (List (Int))) × Int) ((List (List (Int))))) :=
  match s399 with | (l385, x391) => (bif decide (x391 < (((l0).length : Int))) then Option.bind (geti l0 x391) fun x403 => Option.bind (loopM (m_impl_segments_s4 x391 x403) ((l385, 1))) fun (r531 : (List (List (Int)))) => (fun (l508 : List (List (Int))) => some (Ctl.next ((l508, wr (x391 + 1))))) r531 else some (Ctl.out l385))
noncomputable def m_impl_segments (l0 : List (List (Int × Int))) : Option ((List (List (Int)))) :=
  Option.bind (loopM (m_impl_segments_s3 l0) ((([] : List (List (Int))), 0))) fun (r396 : (List (List (Int)))) => (fun (l375 : List (List (Int))) => some l375) r396

noncomputable def m_impl_SegmentsOf (l0 : List (List (Int × Int))) : Option ((List (List (Int))) × (Bool)) :=
  Option.bind (m_impl_pathsOk l0) fun y2 => (bif !y2 then some (([], false)) else Option.bind (m_impl_segments l0) fun y7 => some ((y7, true)))

noncomputable def m_laws_markPointSS_s1  (s70 : Int × Int × (List (List (Int × Int)))) : Option (Ctl (Int × Int × (List (List (Int × Int)))) (Int × (List (List (Int × Int))))) :=
  match s70 with | (x61, x62, l63) => (bif decide (x62 < (((l63).length : Int))) then Option.bind (geti l63 x62) fun x74 => Option.bind (m_laws_markPointS x74 x61) fun y86 => some (Ctl.next ((y86.1, wr (x62 + 1), l63.set (Int.toNat x62) y86.2))) else some (Ctl.out ((x61, l63))))
noncomputable def m_laws_markPointSS (l0 : List (List (Int × Int))) (p1 : Int) : Option ((Int) × (List (List (Int × Int)))) :=
  Option.bind (loopM (m_laws_markPointSS_s1) ((p1, 0, l0))) fun (r67 : Int × (List (List (Int × Int)))) => match r67 with | (x55, l56) => some ((x55, l56))

noncomputable def m_laws_FnExactSegmentsOf (l0 : List (List (Int × Int))) : Option ((Bool)) :=
  Option.bind (m_laws_szPointSS l0 1048576) fun y2 => (bif decide (y2 < 0) then some true else Option.bind (m_laws_toPointSS l0) fun y7 => Option.bind (m_spec_SegmentsOf y7) fun y18 => Option.bind (m_laws_toPointSS l0) fun y30 => Option.bind (m_impl_SegmentsOf y30) fun y43 => Option.bind (m_laws_eqInt64SS y43.1 y18.1) fun y58 => (bif !y58 then some false else (bif !(y43.2 == y18.2) then some false else Option.bind (m_laws_toPointSS l0) fun y64 => Option.bind (m_laws_eqPointSS y30 y64) fun y79 => (bif !y79 then some false else Option.bind (m_laws_markPointSS y30 1) fun y84 => (bif decide (y84.1 < 0) then some false else Option.bind (m_laws_eqInt64SS y43.1 y18.1) fun y92 => (bif !y92 then some false else (bif !(y43.2 == y18.2) then some false else Option.bind (m_laws_markInt64SS y43.1 1) fun y98 => Option.bind (m_laws_heldInt64SS y98.2 1) fun y105 => (bif decide (y105 < 0) then some false else (bif y105 != y98.1 then some false else Option.bind (m_laws_toPointSS l0) fun y111 => Option.bind (m_impl_SegmentsOf y111) fun y127 => Option.bind (m_laws_eqInt64SS y127.1 y18.1) fun y144 => (bif !y144 then some false else (bif !(y127.2 == y18.2) then some false else Option.bind (m_laws_heldInt64SS y98.2 1) fun y152 => (bif decide (y152 < 0) then some false else (bif y152 != y98.1 then some false else some true)))))))))))))

noncomputable def m_spec_OneByOne_s4 (y7 : (List (Int × Int))) (l372 : List (Int × Int)) (s484 : Int × Int × Int) : Option (Ctl (Int × Int × Int) (Int)) :=
  match s484 with | (x474, x475, x476) => (bif decide (x476 < (((y7).length : Int))) then Option.bind (geti y7 x476) fun x488 => Option.bind (m_spec_l01Index l372 x488.1 x488.2) fun y490 => (bif decide (y490 ≥ 0) then some (Ctl.next ((x474, x475, wr (x476 + 1)))) else Option.bind (Option.bind (geti y7 x476) fun x512 => Option.bind (m_spec_l05Gain l372 x512.1 x512.2) fun y514 => (bif decide (y514 > x475) then some ((x476, y514)) else some ((x474, x475)))) fun (s510 : Int × Int) => match s510 with | (x504, x505) => some (Ctl.next ((x504, x505, wr (x476 + 1))))) else some (Ctl.out x474))
noncomputable def m_spec_OneByOne_s3 (y7 : (List (Int × Int))) (s386 : (List (Int × Int))) : Option (Ctl ((List (Int × Int))) ((List (Int × Int)))) :=
  (fun (l372 : List (Int × Int)) => (bif decide ((((l372).length : Int)) < 20) then Option.bind (loopM (m_spec_OneByOne_s4 y7 l372) (((-1), 0, 0))) fun (r481 : Int) => (fun (x468 : Int) => (bif decide (x468 < 0) then some (Ctl.out l372) else Option.bind (geti y7 x468) fun x523 => Option.bind (apC l372 (([(x523.1, x523.2)] : List (Int × Int)))) fun _ => some (Ctl.next (l372 ++ (([(x523.1, x523.2)] : List (Int × Int))))))) r481 else some (Ctl.out l372))) s386
noncomputable def m_spec_OneByOne (l0 : List (Int × Int)) : Option ((List (Int × Int)) × (Int) × (Bool)) :=
  Option.bind (m_spec_l05Few l0) fun y2 => (bif !y2 then some (([], 0, false)) else Option.bind (m_spec_l05Hanan l0) fun y7 => Option.bind (apC (([] : List (Int × Int))) l0) fun _ => Option.bind (loopM (m_spec_OneByOne_s3 y7) ((([] : List (Int × Int))) ++ l0)) fun (r383 : (List (Int × Int))) => (fun (l362 : List (Int × Int)) => Option.bind (m_spec_l05Tree l362) fun y546 => Option.bind (slci l362 (((l0).length : Int)) (((l362).length : Int))) fun _ => Option.bind (apC (([] : List (Int × Int))) (slc l362 (((l0).length : Int)) (((l362).length : Int)))) fun _ => some (((([] : List (Int × Int))) ++ (slc l362 (((l0).length : Int)) (((l362).length : Int))), y546.2, true))) r383)

noncomputable def m_impl_oneByOne_s4 (l743 : List (Int × Int)) (y769 : (List (Int × Int))) (s997 : Int × Int × Int × Int) : Option (Ctl (Int × Int × Int × Int) (Int × Int × Int)) :=
  match s997 with | (x985, x986, x987, x988) => (bif decide (x986 < (((y769).length : Int))) then Option.bind (Option.bind (geti y769 x986) fun x1051 => Option.bind (m_impl_gain l743 x1051.1 x1051.2) fun y1065 => (bif decide (y1065 > x985) then some ((y1065, x1051.1, x1051.2)) else some ((x985, x987, x988)))) fun (s1049 : Int × Int × Int) => match s1049 with | (x1041, x1042, x1043) => some (Ctl.next ((x1041, wr (x986 + 1), x1042, x1043))) else some (Ctl.out ((x985, x987, x988))))
noncomputable def m_impl_oneByOne_s3 (l0 : List (Int × Int)) (s755 : (List (Int × Int))) : Option (Ctl ((List (Int × Int))) ((List (Int × Int)))) :=
  (fun (l743 : List (Int × Int)) => (bif decide ((((l743).length : Int)) < 20) then Option.bind (m_impl_hanan l0) fun y769 => Option.bind (loopM (m_impl_oneByOne_s4 l743 y769) ((0, 0, 0, 0))) fun (r994 : Int × Int × Int) => match r994 with | (x977, x978, x979) => (bif x977 == 0 then some (Ctl.out l743) else Option.bind (apC l743 (([(x978, x979)] : List (Int × Int)))) fun _ => some (Ctl.next (l743 ++ (([(x978, x979)] : List (Int × Int)))))) else some (Ctl.out l743))) s755
noncomputable def m_impl_oneByOne (l0 : List (Int × Int)) : Option ((List (Int × Int))) :=
  Option.bind (m_slices_Clone_impl_Point_impl_Point l0) fun y2 => Option.bind (loopM (m_impl_oneByOne_s3 l0) y2) fun (r752 : (List (Int × Int))) => (fun (l734 : List (Int × Int)) => some l734) r752

noncomputable def m_impl_OneByOne (l0 : List (Int × Int)) : Option ((List (Int × Int)) × (Int) × (Bool)) :=
  Option.bind (m_impl_pinsOk l0 7) fun y2 => (bif !y2 then some (([], 0, false)) else Option.bind (m_impl_oneByOne l0) fun y7 => Option.bind (m_impl_spanning y7) fun y18 => Option.bind (slci y7 (((l0).length : Int)) (((y7).length : Int))) fun _ => Option.bind (m_slices_Clone_impl_Point_impl_Point (slc y7 (((l0).length : Int)) (((y7).length : Int)))) fun y40 => some ((y40, y18.2, true)))

noncomputable def m_laws_FnExactOneByOne (l0 : List (Int × Int)) : Option ((Bool)) :=
  Option.bind (m_laws_szPointS l0 1048576) fun y2 => (bif decide (y2 < 0) then some true else Option.bind (m_laws_toPointS l0) fun y7 => Option.bind (m_spec_OneByOne y7) fun y18 => Option.bind (m_laws_toPointS l0) fun y30 => Option.bind (m_impl_OneByOne y30) fun y43 => Option.bind (m_laws_eqPointS y43.1 y18.1) fun y58 => (bif !y58 then some false else (bif y43.2.1 != y18.2.1 then some false else (bif !(y43.2.2 == y18.2.2) then some false else Option.bind (m_laws_toPointS l0) fun y65 => Option.bind (m_laws_eqPointS y30 y65) fun y80 => (bif !y80 then some false else Option.bind (m_laws_markPointS y30 1) fun y86 => (bif decide (y86.1 < 0) then some false else Option.bind (m_laws_eqPointS y43.1 y18.1) fun y94 => (bif !y94 then some false else (bif y43.2.1 != y18.2.1 then some false else (bif !(y43.2.2 == y18.2.2) then some false else Option.bind (m_laws_markPointS y43.1 1) fun y104 => Option.bind (m_laws_heldPointS y104.2 1) fun y110 => (bif decide (y110 < 0) then some false else (bif y110 != y104.1 then some false else Option.bind (m_laws_toPointS l0) fun y116 => Option.bind (m_impl_OneByOne y116) fun y132 => Option.bind (m_laws_eqPointS y132.1 y18.1) fun y150 => (bif !y150 then some false else (bif y132.2.1 != y18.2.1 then some false else (bif !(y132.2.2 == y18.2.2) then some false else Option.bind (m_laws_heldPointS y104.2 1) fun y157 => (bif decide (y157 < 0) then some false else (bif y157 != y104.1 then some false else some true))))))))))))))))

noncomputable def m_spec_l05Steps_s4 (p1_0 : Int) (p1_1 : Int) (x39 : Int) (x40 : Int) (x1780 : Int) (s2372 : (List (Int × Int)) × Int × Int) : Option (Ctl ((List (Int × Int)) × Int × Int) ((List (Int × Int)) × Int × Int)) :=
  match s2372 with | (l2355, x2360, x2361) => Option.bind (geti (([(x39, x40), (p1_0, p1_1)] : List (Int × Int))) x1780) fun x2387 => (bif !(x2360 == x2387.1 && x2361 == x2387.2) then Option.bind (Option.bind (geti (([(x39, x40), (p1_0, p1_1)] : List (Int × Int))) x1780) fun x2547 => Option.bind (geti (([(x39, x40), (p1_0, p1_1)] : List (Int × Int))) x1780) fun x2549 => Option.bind (m_spec_l01Sign (wr (x2547.1 - x2360))) fun y2551 => Option.bind (m_spec_l01Sign (wr (x2549.2 - x2361))) fun y2555 => some ((wr (x2360 + y2551), wr (x2361 + y2555)))) fun (s2540 : Int × Int) => match s2540 with | (x2528, x2529) => Option.bind (apC l2355 (([(wr (x2360 + x2528), wr (x2361 + x2529))] : List (Int × Int)))) fun _ => some (Ctl.next ((l2355 ++ (([(wr (x2360 + x2528), wr (x2361 + x2529))] : List (Int × Int))), x2528, x2529))) else some (Ctl.out ((l2355, x2360, x2361))))
noncomputable def m_spec_l05Steps_s3 (p1_0 : Int) (p1_1 : Int) (x39 : Int) (x40 : Int) (s1793 : (List (Int × Int)) × Int × Int × Int) : Option (Ctl ((List (Int × Int)) × Int × Int × Int) ((List (Int × Int)))) :=
  match s1793 with | (l1775, x1780, x1781, x1782) => (bif decide (x1780 < 2) then Option.bind (loopM (m_spec_l05Steps_s4 p1_0 p1_1 x39 x40 x1780) ((l1775, x1781, x1782))) fun (r2369 : (List (Int × Int)) × Int × Int) => match r2369 with | (l2340, x2345, x2346) => some (Ctl.next ((l2340, wr (x1780 + 1), x2345, x2346))) else some (Ctl.out l1775))
noncomputable def m_spec_l05Steps (p0_0 : Int) (p0_1 : Int) (p1_0 : Int) (p1_1 : Int) (p2 : Bool) : Option ((List (Int × Int))) :=
  Option.bind ((bif p2 then some ((p1_0, p0_1)) else some ((p0_0, p1_1)))) fun (s46 : Int × Int) => match s46 with | (x39, x40) => Option.bind (loopM (m_spec_l05Steps_s3 p1_0 p1_1 x39 x40) ((([] : List (Int × Int)), 0, p0_0, p0_1))) fun (r1790 : (List (Int × Int))) => (fun (l1766 : List (Int × Int)) => some l1766) r1790

noncomputable def m_spec_l05Used_s2 (l241 : List (Int × Int)) (s524 : Int × Int × (List (Bool))) : Option (Ctl (Int × Int × (List (Bool))) (Int)) :=
  match s524 with | (x515, x516, l517) => (bif decide (x516 < (((l241).length : Int))) then Option.bind (Option.bind (geti l241 x516) fun x573 => Option.bind (geti l241 x516) fun x575 => Option.bind (geti l517 (wr ((wr ((wr (x573.1 * 2)) * 100)) + x575.2))) fun x577 => (bif !x577 then Option.bind (geti l517 (wr ((wr ((wr (x573.1 * 2)) * 100)) + x575.2))) fun x581 => some ((wr (x515 + 1), l517.set (Int.toNat (wr ((wr ((wr (x573.1 * 2)) * 100)) + x575.2))) true)) else some ((x515, l517)))) fun (s559 : Int × (List (Bool))) => match s559 with | (x554, l555) => some (Ctl.next ((x554, wr (x516 + 1), l555))) else some (Ctl.out x515))
noncomputable def m_spec_l05Used_s1 (l0 : List (Int × Int)) (l1 : List (List (Int))) (p2 : Int) (s264 : (List (Int × Int)) × Int) : Option (Ctl ((List (Int × Int)) × Int) ((List (Int × Int)))) :=
  match s264 with | (l250, x255) => (bif decide (x255 < (((l1).length : Int))) then Option.bind (p0C (wu (wr ((wr ((((l1).length : Int)) - 1)) - x255)))) fun u268 => Option.bind (geti l1 x255) fun x327 => Option.bind (geti x327 0) fun x335 => Option.bind (geti l0 x335) fun x337 => Option.bind (geti l1 x255) fun x339 => Option.bind (geti x339 1) fun x347 => Option.bind (geti l0 x347) fun x349 => Option.bind (m_spec_l05Steps x337.1 x337.2 x349.1 x349.2 ((andI (shrI p2 (wu (wr ((wr ((((l1).length : Int)) - 1)) - x255)))) 1) == 0)) fun y351 => Option.bind (apC l250 y351) fun _ => some (Ctl.next ((l250 ++ y351, wr (x255 + 1)))) else some (Ctl.out l250))
noncomputable def m_spec_l05Used (l0 : List (Int × Int)) (l1 : List (List (Int))) (p2 : Int) : Option ((Int)) :=
  Option.bind (loopM (m_spec_l05Used_s1 l0 l1 p2) ((([] : List (Int × Int)), 0))) fun (r261 : (List (Int × Int))) => (fun (l241 : List (Int × Int)) => Option.bind (mkC 40000) fun _ => Option.bind (loopM (m_spec_l05Used_s2 l241) ((0, 0, List.replicate (Int.toNat 40000) ((false : Bool))))) fun (r521 : Int) => (fun (x512 : Int) => some x512) r521) r261

end Go.Proofs.Ytdkpfkmmblmlhaa
