/- Printed models: what each function reckons, in plain Lean. -/
import Derived.Test.YtdmokbjaeikfdaaMpk
set_option linter.unusedSimpArgs false
set_option linter.unusedVariables false
namespace Go.Proofs.Ytdmokbjaeikfdaa
open Go.RowKit

def m_laws_szPointS (l0 : List (Int × Int)) (p1 : Int) : Option ((Int)) :=
  (bif decide ((wr (p1 - (((l0).length : Int)))) < 0) then some ((-1)) else some (wr (p1 - (((l0).length : Int)))))

def m_spec_l01Index_s1 (l0 : List (Int × Int)) (p1_0 : Int) (p1_1 : Int) (s1 : Int) : Option (Ctl (Int) (Sum (Unit) ((Int)))) :=
  (fun (x1 : Int) => (bif decide (x1 < (((l0).length : Int))) then Option.bind (geti l0 x1) fun x2 => (bif x2.1 == p1_0 && x2.2 == p1_1 then some (Ctl.out (Sum.inr x1)) else some (Ctl.next (wr (x1 + 1)))) else some (Ctl.out (Sum.inl (()))))) s1
noncomputable def m_spec_l01Index (l0 : List (Int × Int)) (p1_0 : Int) (p1_1 : Int) : Option ((Int)) :=
  Option.bind (loopM (m_spec_l01Index_s1 l0 p1_0 p1_1) 0) fun (r1 : Sum (Unit) ((Int))) => match r1 with | Sum.inl q1 => (some ((-1))) | Sum.inr v1 => some v1

def m_spec_l00In (p0 : Int) (p1 : Int) (p2 : Int) : Option ((Bool)) :=
  (bif decide (p0 ≥ p1) then some (decide (p0 ≤ p2)) else some false)

def m_spec_l01Point (p0_0 : Int) (p0_1 : Int) : Option ((Bool)) :=
  Option.bind (m_spec_l00In p0_0 0 99) fun y1 => (bif y1 then Option.bind (m_spec_l00In p0_1 0 99) fun y2 => some y2 else some false)

noncomputable def m_spec_l05Is_s1 (l0 : List (Int × Int)) (s1 : Int) : Option (Ctl (Int) (Sum (Unit) ((Bool)))) :=
  (fun (x1 : Int) => (bif decide (x1 < (((l0).length : Int))) then Option.bind (geti l0 x1) fun x2 => Option.bind (m_spec_l01Point x2.1 x2.2) fun y1 => (bif !y1 then some (Ctl.out (Sum.inr false)) else Option.bind (slci l0 0 x1) fun y2 => Option.bind (geti l0 x1) fun x3 => Option.bind (m_spec_l01Index y2 x3.1 x3.2) fun y3 => (bif decide (y3 ≥ 0) then some (Ctl.out (Sum.inr false)) else some (Ctl.next (wr (x1 + 1))))) else some (Ctl.out (Sum.inl (()))))) s1
noncomputable def m_spec_l05Is (l0 : List (Int × Int)) : Option ((Bool)) :=
  (bif decide ((((l0).length : Int)) < 1) then some false else (bif decide ((((l0).length : Int)) > 20) then some false else Option.bind (loopM (m_spec_l05Is_s1 l0) 0) fun (r1 : Sum (Unit) ((Bool))) => match r1 with | Sum.inl q1 => (some true) | Sum.inr v1 => some v1))

noncomputable def m_spec_l05Few (l0 : List (Int × Int)) : Option ((Bool)) :=
  Option.bind (m_spec_l05Is l0) fun y1 => (bif y1 then some (decide ((((l0).length : Int)) ≤ 7)) else some false)

def m_spec_l00Max (p0 : Int) (p1 : Int) : Option ((Int)) :=
  (bif decide (p0 > p1) then some p0 else some p1)

def m_spec_l01Abs (p0 : Int) : Option ((Int)) :=
  Option.bind (m_spec_l00Max p0 (wr (0 - p0))) fun y1 => some y1

def m_spec_l01Far (p0_0 : Int) (p0_1 : Int) (p1_0 : Int) (p1_1 : Int) : Option ((Int)) :=
  Option.bind (m_spec_l01Abs (wr (p0_0 - p1_0))) fun y1 => Option.bind (m_spec_l01Abs (wr (p0_1 - p1_1))) fun y2 => some (wr (y1 + y2))

noncomputable def m_spec_l05Tree_s13 (l0 : List (Int × Int)) (l1 : List (Bool)) (x1 : Int) (s1 : (List (Int)) × Int × Int) : Option (Ctl ((List (Int)) × Int × Int) ((List (Int)) × Int)) :=
  match s1 with | (l2, x2, x3) => (bif decide (x3 < (((l0).length : Int))) then Option.bind (Option.bind (geti l0 x1) fun x4 => Option.bind (geti l0 x3) fun x5 => Option.bind (m_spec_l01Far x4.1 x4.2 x5.1 x5.2) fun y1 => Option.bind (geti l1 x1) fun x6 => Option.bind (geti l1 x3) fun x7 => (bif !(x6 == x7) then (bif decide (x2 < 0) then some ((([x1, x3] : List (Int)), y1)) else (bif decide (y1 < x2) then some ((([x1, x3] : List (Int)), y1)) else some ((l2, x2)))) else some ((l2, x2)))) fun (s2 : (List (Int)) × Int) => match s2 with | (l3, x8) => some (Ctl.next ((l3, x8, wr (x3 + 1)))) else some (Ctl.out ((l2, x2))))
noncomputable def m_spec_l05Tree_s12 (l0 : List (Int × Int)) (l1 : List (Bool)) (s3 : (List (Int)) × Int × Int) : Option (Ctl ((List (Int)) × Int × Int) ((List (Int)) × Int)) :=
  match s3 with | (l4, x9, x1) => (bif decide (x1 < (((l0).length : Int))) then Option.bind (loopM (m_spec_l05Tree_s13 l0 l1 x1) ((l4, x9, wr (x1 + 1)))) fun (r1 : (List (Int)) × Int) => match r1 with | (l5, x10) => some (Ctl.next ((l5, x10, wr (x1 + 1)))) else some (Ctl.out ((l4, x9))))
noncomputable def m_spec_l05Tree_s9 (l0 : List (Int × Int)) (s4 : (List (List (Int))) × Int × (List (Bool))) : Option (Ctl ((List (List (Int))) × Int × (List (Bool))) ((List (List (Int))) × Int)) :=
  match s4 with | (l6, x11, l1) => (bif decide ((((l6).length : Int)) < (wr ((((l0).length : Int)) - 1))) then Option.bind (loopM (m_spec_l05Tree_s12 l0 l1) ((([] : List (Int)), (-1), 0))) fun (r2 : (List (Int)) × Int) => match r2 with | (l7, x12) => Option.bind (geti l7 0) fun x13 => Option.bind (geti l1 x13) fun x14 => Option.bind (geti l7 1) fun x15 => Option.bind (geti (l1.set (Int.toNat x13) true) x15) fun x16 => Option.bind (apC l6 (([l7] : List (List (Int))))) fun _ => some (Ctl.next ((l6 ++ (([l7] : List (List (Int)))), wr (x11 + x12), (l1.set (Int.toNat x13) true).set (Int.toNat x15) true))) else some (Ctl.out ((l6, x11))))
noncomputable def m_spec_l05Tree (l0 : List (Int × Int)) : Option ((List (List (Int))) × (Int)) :=
  Option.bind (mkC (((l0).length : Int))) fun _ => Option.bind (geti (List.replicate (Int.toNat (((l0).length : Int))) ((false : Bool))) 0) fun x17 => Option.bind (loopM (m_spec_l05Tree_s9 l0) ((([] : List (List (Int))), 0, (List.replicate (Int.toNat (((l0).length : Int))) ((false : Bool))).set (Int.toNat 0) true))) fun (r3 : (List (List (Int))) × Int) => match r3 with | (l8, x18) => some ((l8, x18))

def m_spec_l03Less_s1 (l0 : List (Int)) (l1 : List (Int)) (s1 : Int) : Option (Ctl (Int) (Sum (Unit) ((Bool)))) :=
  (fun (x1 : Int) => (bif decide (x1 < (((l0).length : Int))) then (bif decide (x1 < (((l1).length : Int))) then Option.bind (geti l0 x1) fun x2 => Option.bind (geti l1 x1) fun x3 => (bif x2 != x3 then Option.bind (geti l0 x1) fun x4 => Option.bind (geti l1 x1) fun x5 => some (Ctl.out (Sum.inr (decide (x4 < x5)))) else some (Ctl.next (wr (x1 + 1)))) else some (Ctl.out (Sum.inl (())))) else some (Ctl.out (Sum.inl (()))))) s1
noncomputable def m_spec_l03Less (l0 : List (Int)) (l1 : List (Int)) : Option ((Bool)) :=
  Option.bind (loopM (m_spec_l03Less_s1 l0 l1) 0) fun (r1 : Sum (Unit) ((Bool))) => match r1 with | Sum.inl q1 => (some (decide ((((l0).length : Int)) < (((l1).length : Int))))) | Sum.inr v1 => some v1

noncomputable def m_spec_l05Pairs_ids_s4 (rw : Nat → List Int) (l0 : List (Nat)) (l1 : List (Nat)) (x1 : Int) (s1 : Int) : Option (Ctl (Int) (Int)) :=
  (fun (x2 : Int) => (bif decide (x2 < (((l1).length : Int))) then Option.bind (geti l1 x2) fun x3 => Option.bind (geti l0 x1) fun x4 => Option.bind (m_spec_l03Less (rw x3) (rw x4)) fun y1 => (bif y1 then some (Ctl.next (wr (x2 + 1))) else some (Ctl.out x2)) else some (Ctl.out x2))) s1
noncomputable def m_spec_l05Pairs_ids_s3 (rw : Nat → List Int) (l0 : List (Nat)) (s2 : (List (Nat)) × Int) : Option (Ctl ((List (Nat)) × Int) ((List (Nat)))) :=
  match s2 with | (l1, x1) => (bif decide (x1 < (((l0).length : Int))) then Option.bind (loopM (m_spec_l05Pairs_ids_s4 rw l0 l1 x1) 0) fun (r1 : Int) => (fun (x5 : Int) => Option.bind (slci l1 x5 (((l1).length : Int))) fun _ => Option.bind (apC (([] : List (Nat))) (slc l1 x5 (((l1).length : Int)))) fun _ => Option.bind (slci l1 0 x5) fun _ => Option.bind (geti l0 x1) fun x6 => Option.bind (apC (l1.take (Int.toNat x5)) (([x6] : List (Nat)))) fun _ => Option.bind (apC ((l1.take (Int.toNat x5)) ++ (([x6] : List (Nat)))) ((([] : List (Nat))) ++ (slc l1 x5 (((l1).length : Int))))) fun _ => some (Ctl.next ((((l1.take (Int.toNat x5)) ++ (([x6] : List (Nat)))) ++ ((([] : List (Nat))) ++ (slc l1 x5 (((l1).length : Int)))), wr (x1 + 1))))) r1 else some (Ctl.out l1))
noncomputable def m_spec_l05Pairs_ids (rw : Nat → List Int) (l0 : List (Nat)) : Option ((List (Nat))) :=
  Option.bind (loopM (m_spec_l05Pairs_ids_s3 rw l0) ((([] : List (Nat)), 0))) fun (r2 : (List (Nat))) => (fun (l2 : List (Nat)) => some l2) r2

noncomputable def m_spec_l05Pairs (l0 : List (List (Int))) : Option (List (List (Int))) :=
  Option.bind (m_spec_l05Pairs_ids (fun i => l0.getD i []) (List.range l0.length)) fun r => Option.bind (chk (decide (r.Perm (List.range l0.length)))) fun _ => some (r.map fun i => l0.getD i [])

def m_spec_l01Sign (p0 : Int) : Option ((Int)) :=
  (bif decide (p0 < 0) then some ((-1)) else (bif decide (p0 > 0) then some 1 else some 0))

noncomputable def m_spec_l05Steps_s4 (p1_0 : Int) (p1_1 : Int) (x1 : Int) (x2 : Int) (x3 : Int) (s1 : (List (Int × Int)) × Int × Int) : Option (Ctl ((List (Int × Int)) × Int × Int) ((List (Int × Int)) × Int × Int)) :=
  match s1 with | (l1, x4, x5) => Option.bind (geti (([(x1, x2), (p1_0, p1_1)] : List (Int × Int))) x3) fun x6 => (bif !(x4 == x6.1 && x5 == x6.2) then Option.bind (Option.bind (geti (([(x1, x2), (p1_0, p1_1)] : List (Int × Int))) x3) fun x7 => Option.bind (geti (([(x1, x2), (p1_0, p1_1)] : List (Int × Int))) x3) fun x8 => Option.bind (m_spec_l01Sign (wr (x7.1 - x4))) fun y1 => Option.bind (m_spec_l01Sign (wr (x8.2 - x5))) fun y2 => some ((wr (x4 + y1), wr (x5 + y2)))) fun (s2 : Int × Int) => match s2 with | (x9, x10) => Option.bind (apC l1 (([(wr (x4 + x9), wr (x5 + x10))] : List (Int × Int)))) fun _ => some (Ctl.next ((l1 ++ (([(wr (x4 + x9), wr (x5 + x10))] : List (Int × Int))), x9, x10))) else some (Ctl.out ((l1, x4, x5))))
noncomputable def m_spec_l05Steps_s3 (p1_0 : Int) (p1_1 : Int) (x1 : Int) (x2 : Int) (s3 : (List (Int × Int)) × Int × Int × Int) : Option (Ctl ((List (Int × Int)) × Int × Int × Int) ((List (Int × Int)))) :=
  match s3 with | (l2, x3, x11, x12) => (bif decide (x3 < 2) then Option.bind (loopM (m_spec_l05Steps_s4 p1_0 p1_1 x1 x2 x3) ((l2, x11, x12))) fun (r1 : (List (Int × Int)) × Int × Int) => match r1 with | (l3, x13, x14) => some (Ctl.next ((l3, wr (x3 + 1), x13, x14))) else some (Ctl.out l2))
noncomputable def m_spec_l05Steps (p0_0 : Int) (p0_1 : Int) (p1_0 : Int) (p1_1 : Int) (p2 : Bool) : Option ((List (Int × Int))) :=
  Option.bind ((bif p2 then some ((p1_0, p0_1)) else some ((p0_0, p1_1)))) fun (s4 : Int × Int) => match s4 with | (x1, x2) => Option.bind (loopM (m_spec_l05Steps_s3 p1_0 p1_1 x1 x2) ((([] : List (Int × Int)), 0, p0_0, p0_1))) fun (r2 : (List (Int × Int))) => (fun (l4 : List (Int × Int)) => some l4) r2

noncomputable def m_spec_l05Used_s2 (l2 : List (Int × Int)) (s1 : Int × Int × (List (Bool))) : Option (Ctl (Int × Int × (List (Bool))) (Int)) :=
  match s1 with | (x1, x2, l3) => (bif decide (x2 < (((l2).length : Int))) then Option.bind (Option.bind (geti l2 x2) fun x3 => Option.bind (geti l2 x2) fun x4 => Option.bind (geti l3 (wr ((wr ((wr (x3.1 * 2)) * 100)) + x4.2))) fun x5 => (bif !x5 then Option.bind (geti l3 (wr ((wr ((wr (x3.1 * 2)) * 100)) + x4.2))) fun x6 => some ((wr (x1 + 1), l3.set (Int.toNat (wr ((wr ((wr (x3.1 * 2)) * 100)) + x4.2))) true)) else some ((x1, l3)))) fun (s2 : Int × (List (Bool))) => match s2 with | (x7, l4) => some (Ctl.next ((x7, wr (x2 + 1), l4))) else some (Ctl.out x1))
noncomputable def m_spec_l05Used_s1 (l0 : List (Int × Int)) (l1 : List (List (Int))) (p2 : Int) (s3 : (List (Int × Int)) × Int) : Option (Ctl ((List (Int × Int)) × Int) ((List (Int × Int)))) :=
  match s3 with | (l5, x8) => (bif decide (x8 < (((l1).length : Int))) then Option.bind (p0C (wu (wr ((wr ((((l1).length : Int)) - 1)) - x8)))) fun u1 => Option.bind (geti l1 x8) fun x9 => Option.bind (geti x9 0) fun x10 => Option.bind (geti l0 x10) fun x11 => Option.bind (geti l1 x8) fun x12 => Option.bind (geti x12 1) fun x13 => Option.bind (geti l0 x13) fun x14 => Option.bind (m_spec_l05Steps x11.1 x11.2 x14.1 x14.2 ((andI (shrI p2 (wu (wr ((wr ((((l1).length : Int)) - 1)) - x8)))) 1) == 0)) fun y1 => Option.bind (apC l5 y1) fun _ => some (Ctl.next ((l5 ++ y1, wr (x8 + 1)))) else some (Ctl.out l5))
noncomputable def m_spec_l05Used (l0 : List (Int × Int)) (l1 : List (List (Int))) (p2 : Int) : Option ((Int)) :=
  Option.bind (loopM (m_spec_l05Used_s1 l0 l1 p2) ((([] : List (Int × Int)), 0))) fun (r1 : (List (Int × Int))) => (fun (l2 : List (Int × Int)) => Option.bind (mkC 40000) fun _ => Option.bind (loopM (m_spec_l05Used_s2 l2) ((0, 0, List.replicate (Int.toNat 40000) ((false : Bool))))) fun (r2 : Int) => (fun (x15 : Int) => some x15) r2) r1

noncomputable def m_spec_BendTree_s2 (y1 : List (List (Int))) (x1 : Int) (s1 : (List (Int)) × Int) : Option (Ctl ((List (Int)) × Int) ((List (Int)))) :=
  match s1 with | (l1, x2) => (bif decide (x2 < (((y1).length : Int))) then Option.bind (Option.bind (Option.bind (p0C (wu (wr ((wr ((((y1).length : Int)) - 1)) - x2)))) fun u1 => (bif (andI (shrI x1 (wu (wr ((wr ((((y1).length : Int)) - 1)) - x2)))) 1) == 1 then some 121 else some 120)) fun (s2 : Int) => (fun (x3 : Int) => Option.bind (apC l1 (([x3] : List (Int)))) fun _ => some (l1 ++ (([x3] : List (Int))))) s2) fun (s3 : (List (Int))) => (fun (l2 : List (Int)) => some (Ctl.next ((l2, wr (x2 + 1))))) s3 else some (Ctl.out l1))
noncomputable def m_spec_BendTree_s1 (l0 : List (Int × Int)) (y1 : List (List (Int))) (s4 : Int × Int × Int) : Option (Ctl (Int × Int × Int) (Int × Int)) :=
  match s4 with | (x4, x5, x6) => Option.bind (p0C (wu (((y1).length : Int)))) fun u2 => (bif decide (x5 < (shlI 1 (wu (((y1).length : Int))))) then Option.bind (Option.bind (m_spec_l05Used l0 y1 x5) fun y2 => (bif decide (x4 < 0) then some ((x5, y2)) else (bif decide (y2 < x4) then some ((x5, y2)) else some ((x6, x4))))) fun (s5 : Int × Int) => match s5 with | (x7, x8) => some (Ctl.next ((x8, wr (x5 + 1), x7))) else some (Ctl.out ((x6, x4))))
noncomputable def m_spec_BendTree (l0 : List (Int × Int)) : Option ((ByteArray) × (Int) × (Bool)) :=
  Option.bind (m_spec_l05Few l0) fun y3 => (bif !y3 then some ((ByteArray.mk #[], 0, false)) else Option.bind (m_spec_l05Tree l0) fun y4 => Option.bind (m_spec_l05Pairs y4.1) fun y1 => Option.bind (loopM (m_spec_BendTree_s1 l0 y1) (((-1), 0, 0))) fun (r1 : Int × Int) => match r1 with | (x1, x9) => Option.bind (loopM (m_spec_BendTree_s2 y1 x1) ((([] : List (Int)), 0))) fun (r2 : (List (Int))) => (fun (l3 : List (Int)) => some ((bstr (l3 : List (Int)), x9, true))) r2)

def m_laws_toPoint (p0_0 : Int) (p0_1 : Int) : Option ((Int × Int)) :=
  some ((p0_0, p0_1))

def m_laws_toPointS_s1 (l0 : List (Int × Int)) (s1 : Int × (List (Int × Int))) : Option (Ctl (Int × (List (Int × Int))) ((List (Int × Int)))) :=
  match s1 with | (x1, l1) => (bif decide (x1 < (((l0).length : Int))) then Option.bind (geti l0 x1) fun x2 => Option.bind (m_laws_toPoint x2.1 x2.2) fun y1 => Option.bind (geti l1 x1) fun x3 => some (Ctl.next ((wr (x1 + 1), l1.set (Int.toNat x1) ((y1.1, y1.2))))) else some (Ctl.out l1))
noncomputable def m_laws_toPointS (l0 : List (Int × Int)) : Option ((List (Int × Int))) :=
  Option.bind (mkC (((l0).length : Int))) fun _ => Option.bind (loopM (m_laws_toPointS_s1 l0) ((0, List.replicate (Int.toNat (((l0).length : Int))) (((0, 0) : Int × Int))))) fun (r1 : (List (Int × Int))) => (fun (l2 : List (Int × Int)) => some l2) r1

def m_impl_in (p0 : Int) (p1 : Int) (p2 : Int) : Option ((Bool)) :=
  (bif decide (p0 ≥ p1) then some (decide (p0 ≤ p2)) else some false)

def m_impl_IsPoint (p0_0 : Int) (p0_1 : Int) : Option ((Bool)) :=
  Option.bind (m_impl_in p0_0 0 99) fun y1 => (bif y1 then Option.bind (m_impl_in p0_1 0 99) fun y2 => some y2 else some false)

def m_impl_noPoint (p0_0 : Int) (p0_1 : Int) : Option ((Bool)) :=
  Option.bind (m_impl_IsPoint p0_0 p0_1) fun y1 => some (!y1)

def m_cmp_isNaN_int64 (p0 : Int) : Option ((Bool)) :=
  some (p0 != p0)

def m_cmp_Compare_int64 (p0 : Int) (p1 : Int) : Option ((Int)) :=
  Option.bind (m_cmp_isNaN_int64 p0) fun y1 => Option.bind (m_cmp_isNaN_int64 p1) fun y2 => (bif y1 then (bif y2 then some 0 else some ((-1))) else (bif y2 then some 1 else (bif decide (p0 < p1) then some ((-1)) else (bif decide (p0 > p1) then some 1 else some 0))))

def m_cmp_Or_int_s1 (l0 : List (Int)) (s1 : Int) : Option (Ctl (Int) (Sum (Unit) ((Int)))) :=
  (fun (x1 : Int) => (bif decide (x1 < (((l0).length : Int))) then Option.bind (geti l0 x1) fun x2 => (bif x2 != 0 then some (Ctl.out (Sum.inr x2)) else some (Ctl.next (wr (x1 + 1)))) else some (Ctl.out (Sum.inl (()))))) s1
noncomputable def m_cmp_Or_int (l0 : List (Int)) : Option ((Int)) :=
  Option.bind (loopM (m_cmp_Or_int_s1 l0) 0) fun (r1 : Sum (Unit) ((Int))) => match r1 with | Sum.inl q1 => (some 0) | Sum.inr v1 => some v1

noncomputable def m_impl_pointOrder (p0_0 : Int) (p0_1 : Int) (p1_0 : Int) (p1_1 : Int) : Option ((Int)) :=
  Option.bind (m_cmp_Compare_int64 p0_0 p1_0) fun y1 => Option.bind (m_cmp_Compare_int64 p0_1 p1_1) fun y2 => Option.bind (m_cmp_Or_int (([y1, y2] : List (Int)))) fun y3 => some y3

def m_slices_Clone_impl_Point_impl_Point (l0 : List (Int × Int)) : Option ((List (Int × Int))) :=
  Option.bind (apC (([] : List (Int × Int))) l0) fun _ => some ((([] : List (Int × Int))) ++ l0)

def m_slices_Compact_impl_Point_impl_Point_s4 (l0 : List (Int × Int)) (x1 : Int) (s1 : Int × Int × (List (Int × Int))) : Option (Ctl (Int × Int × (List (Int × Int))) (Int × (List (Int × Int)))) :=
  match s1 with | (x2, x3, l1) => (bif decide (x3 < (((slc l1 x1 (((l0).length : Int))).length : Int))) then Option.bind (Option.bind (geti (slc l1 x1 (((l0).length : Int))) x3) fun x4 => Option.bind (geti (slc l1 x1 (((l0).length : Int))) (wr (x3 - 1))) fun x5 => (bif !(x4.1 == x5.1 && x4.2 == x5.2) then Option.bind (geti (slc l1 x1 (((l0).length : Int))) x3) fun x6 => Option.bind (geti l1 x2) fun x7 => some ((wr (x2 + 1), l1.set (Int.toNat x2) ((x6.1, x6.2)))) else some ((x2, l1)))) fun (s2 : Int × (List (Int × Int))) => match s2 with | (x8, l2) => some (Ctl.next ((x8, wr (x3 + 1), l2))) else some (Ctl.out ((x2, l1))))
noncomputable def m_slices_Compact_impl_Point_impl_Point_s3 (l0 : List (Int × Int)) (s3 : Int) : Option (Ctl (Int) (Sum (Unit) ((List (Int × Int))))) :=
  (fun (x1 : Int) => (bif decide (x1 < (((l0).length : Int))) then Option.bind (geti l0 x1) fun x9 => Option.bind (geti l0 (wr (x1 - 1))) fun x10 => (bif x9.1 == x10.1 && x9.2 == x10.2 then Option.bind (slci l0 x1 (((l0).length : Int))) fun _ => Option.bind (loopM (m_slices_Compact_impl_Point_impl_Point_s4 l0 x1) ((x1, 1, l0))) fun (r1 : Int × (List (Int × Int))) => match r1 with | (x11, l3) => Option.bind (slci l3 x11 (((l3).length : Int))) fun _ => Option.bind (slci (clr ((0, 0) : Int × Int) l3 x11) 0 x11) fun _ => some (Ctl.out (Sum.inr ((clr ((0, 0) : Int × Int) l3 x11).take (Int.toNat x11)))) else some (Ctl.next (wr (x1 + 1)))) else some (Ctl.out (Sum.inl (()))))) s3
noncomputable def m_slices_Compact_impl_Point_impl_Point (l0 : List (Int × Int)) : Option ((List (Int × Int))) :=
  (bif decide ((((l0).length : Int)) < 2) then some l0 else Option.bind (loopM (m_slices_Compact_impl_Point_impl_Point_s3 l0) 1) fun (r2 : Sum (Unit) ((List (Int × Int)))) => match r2 with | Sum.inl q1 => (some l0) | Sum.inr v1 => some v1)

noncomputable def m_impl_sorted (l0 : List (Int × Int)) : Option ((List (Int × Int))) :=
  Option.bind (m_slices_Clone_impl_Point_impl_Point l0) fun y1 => Option.bind (m_slices_SortFunc_impl_Point_impl_Point_impl_pointOrder y1) fun y2 => Option.bind (m_slices_Compact_impl_Point_impl_Point y2) fun y3 => some y3

def m_slices_IndexFunc_impl_Point_impl_Point_impl_noPoint_s1 (l0 : List (Int × Int)) (s1 : Int) : Option (Ctl (Int) (Sum (Unit) ((Int)))) :=
  (fun (x1 : Int) => (bif decide (x1 < (((l0).length : Int))) then Option.bind (geti l0 x1) fun x2 => Option.bind (m_impl_noPoint x2.1 x2.2) fun y1 => (bif y1 then some (Ctl.out (Sum.inr x1)) else some (Ctl.next (wr (x1 + 1)))) else some (Ctl.out (Sum.inl (()))))) s1
noncomputable def m_slices_IndexFunc_impl_Point_impl_Point_impl_noPoint (l0 : List (Int × Int)) : Option ((Int)) :=
  Option.bind (loopM (m_slices_IndexFunc_impl_Point_impl_Point_impl_noPoint_s1 l0) 0) fun (r1 : Sum (Unit) ((Int))) => match r1 with | Sum.inl q1 => (some ((-1))) | Sum.inr v1 => some v1

noncomputable def m_slices_ContainsFunc_impl_Point_impl_Point_impl_noPoint (l0 : List (Int × Int)) : Option ((Bool)) :=
  Option.bind (m_slices_IndexFunc_impl_Point_impl_Point_impl_noPoint l0) fun y1 => some (decide (y1 ≥ 0))

noncomputable def m_impl_pinsOk (l0 : List (Int × Int)) (p1 : Int) : Option ((Bool)) :=
  (bif decide ((((l0).length : Int)) ≥ 1) then (bif decide ((((l0).length : Int)) ≤ p1) then Option.bind (m_slices_ContainsFunc_impl_Point_impl_Point_impl_noPoint l0) fun y1 => (bif !y1 then Option.bind (m_impl_sorted l0) fun y2 => some ((((y2).length : Int)) == (((l0).length : Int))) else some false) else some false) else some false)

def m_impl_size (p0 : Int) : Option ((Int)) :=
  some (if (wr (0 - p0)) > p0 then (wr (0 - p0)) else p0)

def m_impl_far (p0_0 : Int) (p0_1 : Int) (p1_0 : Int) (p1_1 : Int) : Option ((Int)) :=
  Option.bind (m_impl_size (wr (p0_0 - p1_0))) fun y1 => Option.bind (m_impl_size (wr (p0_1 - p1_1))) fun y2 => some (wr (y1 + y2))

def m_slices_Compare_int64_int64_s1 (l0 : List (Int)) (l1 : List (Int)) (s1 : Int) : Option (Ctl (Int) (Sum (Unit) ((Int)))) :=
  (fun (x1 : Int) => (bif decide (x1 < (((l0).length : Int))) then Option.bind (geti l0 x1) fun x2 => (bif decide (x1 ≥ (((l1).length : Int))) then some (Ctl.out (Sum.inr 1)) else Option.bind (geti l1 x1) fun x3 => Option.bind (m_cmp_Compare_int64 x2 x3) fun y1 => (bif y1 != 0 then some (Ctl.out (Sum.inr y1)) else some (Ctl.next (wr (x1 + 1))))) else some (Ctl.out (Sum.inl (()))))) s1
noncomputable def m_slices_Compare_int64_int64 (l0 : List (Int)) (l1 : List (Int)) : Option ((Int)) :=
  Option.bind (loopM (m_slices_Compare_int64_int64_s1 l0 l1) 0) fun (r1 : Sum (Unit) ((Int))) => match r1 with | Sum.inl q1 => ((bif decide ((((l0).length : Int)) < (((l1).length : Int))) then some ((-1)) else some 0)) | Sum.inr v1 => some v1

def m_impl_spanning_s13 (l0 : List (Int × Int)) (l1 : List (Bool)) (x1 : Int) (s1 : Int × Int × Int) : Option (Ctl (Int × Int × Int) (Int × Int)) :=
  match s1 with | (x2, x3, x4) => (bif decide (x4 < (((l0).length : Int))) then Option.bind (Option.bind (geti l1 x1) fun x5 => Option.bind (geti l1 x4) fun x6 => (bif !(x5 == x6) then (bif decide (x2 < 0) then some ((x1, x4)) else Option.bind (geti l0 x1) fun x7 => Option.bind (geti l0 x4) fun x8 => Option.bind (geti l0 x2) fun x9 => Option.bind (geti l0 x3) fun x10 => Option.bind (m_impl_far x7.1 x7.2 x8.1 x8.2) fun y1 => Option.bind (m_impl_far x9.1 x9.2 x10.1 x10.2) fun y2 => (bif decide (y1 < y2) then some ((x1, x4)) else some ((x2, x3)))) else some ((x2, x3)))) fun (s2 : Int × Int) => match s2 with | (x11, x12) => some (Ctl.next ((x11, x12, wr (x4 + 1)))) else some (Ctl.out ((x2, x3))))
noncomputable def m_impl_spanning_s12 (l0 : List (Int × Int)) (l1 : List (Bool)) (s3 : Int × Int × Int) : Option (Ctl (Int × Int × Int) (Int × Int)) :=
  match s3 with | (x13, x14, x1) => (bif decide (x1 < (((l0).length : Int))) then Option.bind (loopM (m_impl_spanning_s13 l0 l1 x1) ((x13, x14, wr (x1 + 1)))) fun (r1 : Int × Int) => match r1 with | (x15, x16) => some (Ctl.next ((x15, x16, wr (x1 + 1)))) else some (Ctl.out ((x13, x14))))
noncomputable def m_impl_spanning_s9 (l0 : List (Int × Int)) (s4 : (List (List (Int))) × Int × (List (Bool))) : Option (Ctl ((List (List (Int))) × Int × (List (Bool))) ((List (List (Int))) × Int)) :=
  match s4 with | (l2, x17, l1) => (bif decide ((wr ((((l2).length : Int)) + 1)) < (((l0).length : Int))) then Option.bind (loopM (m_impl_spanning_s12 l0 l1) (((-1), (-1), 0))) fun (r2 : Int × Int) => match r2 with | (x18, x19) => Option.bind (geti l1 x18) fun x20 => Option.bind (geti (l1.set (Int.toNat x18) true) x19) fun x21 => Option.bind (geti l0 x18) fun x22 => Option.bind (geti l0 x19) fun x23 => Option.bind (apC l2 (([([x18, x19] : List (Int))] : List (List (Int))))) fun _ => Option.bind (m_impl_far x22.1 x22.2 x23.1 x23.2) fun y3 => some (Ctl.next ((l2 ++ (([([x18, x19] : List (Int))] : List (List (Int)))), wr (x17 + y3), (l1.set (Int.toNat x18) true).set (Int.toNat x19) true))) else some (Ctl.out ((l2, x17))))
noncomputable def m_impl_spanning (l0 : List (Int × Int)) : Option ((List (List (Int))) × (Int)) :=
  Option.bind (mkC (((l0).length : Int))) fun _ => Option.bind (geti (List.replicate (Int.toNat (((l0).length : Int))) ((false : Bool))) 0) fun x24 => Option.bind (loopM (m_impl_spanning_s9 l0) ((([] : List (List (Int))), 0, (List.replicate (Int.toNat (((l0).length : Int))) ((false : Bool))).set (Int.toNat 0) true))) fun (r3 : (List (List (Int))) × Int) => match r3 with | (l3, x25) => Option.bind (m_slices_SortFunc_int64_int64_slices_Compare_int64_int64 l3) fun y4 => some ((y4, x25))

def m_slices_Grow_impl_Point_impl_Point_nil (p1 : Int) : Option ((List (Int × Int))) :=
  Option.bind ((bif decide (p1 < 0) then none else some (()))) fun (s1 : Unit) => Option.bind ((bif decide ((wr (p1 - (wr (0 - 0)))) > 0) then Option.bind (mkC (wr (p1 - (wr (0 - 0))))) fun _ => Option.bind (chk (decide (0 < (wr (p1 - (wr (0 - 0))))))) fun _ => Option.bind (slci (List.replicate (Int.toNat (wr (p1 - (wr (0 - 0))))) (((0, 0) : Int × Int))) 0 0) fun _ => some ((List.replicate (Int.toNat (wr (p1 - (wr (0 - 0))))) (((0, 0) : Int × Int))).take (Int.toNat 0)) else some (([] : List (Int × Int))))) fun (s2 : (List (Int × Int))) => (fun (l1 : List (Int × Int)) => some l1) s2

def m_slices_Concat_impl_Point_impl_Point_s2 (l0 : List (List (Int × Int))) (s1 : (List (Int × Int)) × Int) : Option (Ctl ((List (Int × Int)) × Int) ((List (Int × Int)))) :=
  match s1 with | (l1, x1) => (bif decide (x1 < (((l0).length : Int))) then Option.bind (geti l0 x1) fun x2 => Option.bind (apC l1 x2) fun _ => some (Ctl.next ((l1 ++ x2, wr (x1 + 1)))) else some (Ctl.out l1))
def m_slices_Concat_impl_Point_impl_Point_s1 (l0 : List (List (Int × Int))) (s2 : Int × Int) : Option (Ctl (Int × Int) (Int)) :=
  match s2 with | (x3, x4) => (bif decide (x4 < (((l0).length : Int))) then Option.bind (Option.bind (geti l0 x4) fun x5 => (bif decide ((wr (x3 + (((x5).length : Int)))) < 0) then none else some (wr (x3 + (((x5).length : Int)))))) fun (s3 : Int) => (fun (x6 : Int) => some (Ctl.next ((x6, wr (x4 + 1))))) s3 else some (Ctl.out x3))
noncomputable def m_slices_Concat_impl_Point_impl_Point (l0 : List (List (Int × Int))) : Option ((List (Int × Int))) :=
  Option.bind (loopM (m_slices_Concat_impl_Point_impl_Point_s1 l0) ((0, 0))) fun (r1 : Int) => (fun (x7 : Int) => Option.bind (m_slices_Grow_impl_Point_impl_Point_nil x7) fun y1 => Option.bind (loopM (m_slices_Concat_impl_Point_impl_Point_s2 l0) ((y1, 0))) fun (r2 : (List (Int × Int))) => (fun (l2 : List (Int × Int)) => some l2) r2) r1

def m_impl_side (p0 : Int) : Option ((Int)) :=
  Option.bind (m_cmp_Compare_int64 p0 0) fun y1 => some y1

noncomputable def m_impl_line_s1 (p1_0 : Int) (p1_1 : Int) (s1 : (List (Int × Int)) × Int × Int) : Option (Ctl ((List (Int × Int)) × Int × Int) ((List (Int × Int)))) :=
  match s1 with | (l1, x1, x2) => (bif !(x1 == p1_0 && x2 == p1_1) then Option.bind (m_impl_side (wr (p1_0 - x1))) fun y1 => Option.bind (m_impl_side (wr (p1_1 - x2))) fun y2 => Option.bind (apC l1 (([(wr (x1 + y1), wr (x2 + y2))] : List (Int × Int)))) fun _ => some (Ctl.next ((l1 ++ (([(wr (x1 + y1), wr (x2 + y2))] : List (Int × Int))), wr (x1 + y1), wr (x2 + y2)))) else some (Ctl.out l1))
noncomputable def m_impl_line (p0_0 : Int) (p0_1 : Int) (p1_0 : Int) (p1_1 : Int) : Option ((List (Int × Int))) :=
  Option.bind (loopM (m_impl_line_s1 p1_0 p1_1) ((([] : List (Int × Int)), p0_0, p0_1))) fun (r1 : (List (Int × Int))) => (fun (l2 : List (Int × Int)) => some l2) r1

noncomputable def m_impl_bent (p0_0 : Int) (p0_1 : Int) (p1_0 : Int) (p1_1 : Int) (p2 : Bool) : Option ((List (Int × Int))) :=
  Option.bind ((bif p2 then some ((p1_0, p0_1)) else some ((p0_0, p1_1)))) fun (s1 : Int × Int) => match s1 with | (x1, x2) => Option.bind (Option.bind (m_impl_line p0_0 p0_1 x1 x2) fun y1 => Option.bind (m_impl_line x1 x2 p1_0 p1_1) fun y2 => Option.bind (m_slices_Concat_impl_Point_impl_Point (([([(p0_0, p0_1)] : List (Int × Int)), y1, y2] : List (List (Int × Int))))) fun y3 => some y3) fun (s2 : (List (Int × Int))) => (fun (l1 : List (Int × Int)) => some l1) s2

noncomputable def m_impl_bentSteps_s4 (y1 : (List (Int × Int))) (s1 : Int × (List ((Int × Int × Int × Int) × Bool))) : Option (Ctl (Int × (List ((Int × Int × Int × Int) × Bool))) ((List ((Int × Int × Int × Int) × Bool)))) :=
  match s1 with | (x1, l2) => (bif decide (x1 < (((y1).length : Int))) then Option.bind (Option.bind (Option.bind (geti y1 (wr (x1 - 1))) fun x2 => Option.bind (geti y1 x1) fun x3 => some ((x2.1, x2.2, x3.1, x3.2))) fun (s2 : Int × Int × Int × Int) => match s2 with | (x4, x5, x6, x7) => Option.bind (Option.bind (m_impl_pointOrder x4 x5 x6 x7) fun y2 => (bif decide (y2 > 0) then some ((x6, x7, x4, x5)) else some ((x4, x5, x6, x7)))) fun (s3 : Int × Int × Int × Int) => match s3 with | (x8, x9, x10, x11) => Option.bind (mpC (okIIII ((x8, x9, x10, x11)))) fun _ => some (mup l2 ((x8, x9, x10, x11)) true)) fun (s4 : (List ((Int × Int × Int × Int) × Bool))) => (fun (l3 : List ((Int × Int × Int × Int) × Bool)) => some (Ctl.next ((wr (x1 + 1), l3)))) s4 else some (Ctl.out l2))
noncomputable def m_impl_bentSteps_s3 (l0 : List (Int × Int)) (l1 : List (List (Int))) (p2 : ByteArray) (s5 : Int × (List ((Int × Int × Int × Int) × Bool))) : Option (Ctl (Int × (List ((Int × Int × Int × Int) × Bool))) ((List ((Int × Int × Int × Int) × Bool)))) :=
  match s5 with | (x12, l4) => (bif decide (x12 < (((l1).length : Int))) then Option.bind (geti l1 x12) fun x13 => Option.bind (geti x13 0) fun x14 => Option.bind (geti l0 x14) fun x15 => Option.bind (geti x13 1) fun x16 => Option.bind (geti l0 x16) fun x17 => Option.bind (sget (p2) x12) fun x18 => Option.bind (m_impl_bent x15.1 x15.2 x17.1 x17.2 (x18 == 120)) fun y1 => Option.bind (loopM (m_impl_bentSteps_s4 y1) ((1, l4))) fun (r1 : (List ((Int × Int × Int × Int) × Bool))) => (fun (l5 : List ((Int × Int × Int × Int) × Bool)) => some (Ctl.next ((wr (x12 + 1), l5)))) r1 else some (Ctl.out l4))
noncomputable def m_impl_bentSteps (l0 : List (Int × Int)) (l1 : List (List (Int))) (p2 : ByteArray) : Option ((Int)) :=
  Option.bind (loopM (m_impl_bentSteps_s3 l0 l1 p2) ((0, ([] : List ((Int × Int × Int × Int) × Bool))))) fun (r2 : (List ((Int × Int × Int × Int) × Bool))) => (fun (l6 : List ((Int × Int × Int × Int) × Bool)) => some (((l6).length : Int))) r2

noncomputable def m_impl_BendTree_s7 (y1 : (List (List (Int))) × (Int)) (x1 : Int) (s1 : (List (Int)) × Int) : Option (Ctl ((List (Int)) × Int) ((List (Int)))) :=
  match s1 with | (l1, x2) => (bif decide (x2 < (((y1.1).length : Int))) then Option.bind (p0C (wr ((wr ((((y1.1).length : Int)) - 1)) - x2))) fun u1 => Option.bind (sget (ByteArray.mk #[120, 121]) (andI (shrI x1 (wr ((wr ((((y1.1).length : Int)) - 1)) - x2))) 1)) fun x3 => Option.bind (apC l1 (([x3] : List (Int)))) fun _ => some (Ctl.next ((l1 ++ (([x3] : List (Int))), wr (x2 + 1)))) else some (Ctl.out l1))
noncomputable def m_impl_BendTree_s5 (l0 : List (Int × Int)) (y1 : (List (List (Int))) × (Int)) (s2 : ByteArray × Int × Int) : Option (Ctl (ByteArray × Int × Int) (ByteArray × Int)) :=
  match s2 with | (x4, x5, x1) => (bif decide (x1 < (shlI 1 (((y1.1).length : Int)))) then Option.bind (Option.bind (loopM (m_impl_BendTree_s7 y1 x1) ((([] : List (Int)), 0))) fun (r1 : (List (Int))) => (fun (l2 : List (Int)) => Option.bind (m_impl_bentSteps l0 y1.1 (bstr (l2 : List (Int)))) fun y2 => (bif decide (x5 < 0) then some ((bstr (l2 : List (Int)), y2)) else (bif decide (y2 < x5) then some ((bstr (l2 : List (Int)), y2)) else some ((x4, x5))))) r1) fun (s3 : ByteArray × Int) => match s3 with | (x6, x7) => some (Ctl.next ((x6, x7, wr (x1 + 1)))) else some (Ctl.out ((x4, x5))))
noncomputable def m_impl_BendTree (l0 : List (Int × Int)) : Option ((ByteArray) × (Int) × (Bool)) :=
  Option.bind (m_impl_pinsOk l0 7) fun y3 => (bif !y3 then some ((ByteArray.mk #[], 0, false)) else Option.bind (m_impl_spanning l0) fun y1 => Option.bind (p0C (((y1.1).length : Int))) fun u2 => Option.bind (loopM (m_impl_BendTree_s5 l0 y1) ((ByteArray.mk #[], (-1), 0))) fun (r2 : ByteArray × Int) => match r2 with | (x8, x9) => some ((x8, x9, true)))

def m_laws_eqPoint (p0_0 : Int) (p0_1 : Int) (p1_0 : Int) (p1_1 : Int) : Option ((Bool)) :=
  (bif p0_0 != p1_0 then some false else (bif p0_1 != p1_1 then some false else some true))

def m_laws_eqPointS_s1 (l0 : List (Int × Int)) (l1 : List (Int × Int)) (s1 : Int) : Option (Ctl (Int) (Sum (Unit) ((Bool)))) :=
  (fun (x1 : Int) => (bif decide (x1 < (((l0).length : Int))) then Option.bind (geti l0 x1) fun x2 => Option.bind (geti l1 x1) fun x3 => Option.bind (m_laws_eqPoint x2.1 x2.2 x3.1 x3.2) fun y1 => (bif !y1 then some (Ctl.out (Sum.inr false)) else some (Ctl.next (wr (x1 + 1)))) else some (Ctl.out (Sum.inl (()))))) s1
noncomputable def m_laws_eqPointS (l0 : List (Int × Int)) (l1 : List (Int × Int)) : Option ((Bool)) :=
  (bif (((l0).length : Int)) != (((l1).length : Int)) then some false else Option.bind (loopM (m_laws_eqPointS_s1 l0 l1) 0) fun (r1 : Sum (Unit) ((Bool))) => match r1 with | Sum.inl q1 => (some true) | Sum.inr v1 => some v1)

noncomputable def m_laws_FnExactBendTree (l0 : List (Int × Int)) : Option ((Bool)) :=
  Option.bind (m_laws_szPointS l0 1048576) fun y1 => (bif decide (y1 < 0) then some true else Option.bind (m_laws_toPointS l0) fun y2 => Option.bind (m_spec_BendTree y2) fun y3 => Option.bind (m_laws_toPointS l0) fun y4 => Option.bind (m_impl_BendTree y4) fun y5 => (bif !((y5.1).toList == (y3.1).toList) then some false else (bif y5.2.1 != y3.2.1 then some false else (bif !(y5.2.2 == y3.2.2) then some false else Option.bind (m_laws_toPointS l0) fun y6 => Option.bind (m_laws_eqPointS y4 y6) fun y7 => (bif !y7 then some false else some true)))))

def m_laws_b10Long (l0 : List (Int)) (l1 : List (Int)) : Option ((Bool)) :=
  (bif decide ((((l0).length : Int)) > 1048576) then some true else some (decide ((((l1).length : Int)) > 1048576)))

def m_spec_l00From (l0 : List (Int)) : Option ((Int × Int)) :=
  some ((0, 0))

def m_spec_l00Src_next_bspecl00Src (l0_0 : List (Int)) (q0_1 : Int) (q0_2 : Int) : Option ((Int) × (Int) × (Int)) :=
  Option.bind ((bif decide (q0_1 < (((l0_0).length : Int))) then Option.bind (geti l0_0 q0_1) fun x1 => some (wr x1) else some 0)) fun (s1 : Int) => (fun (x2 : Int) => (bif decide ((wr (q0_1 + 1)) ≤ (((l0_0).length : Int))) then some ((x2, wr (q0_1 + 1), wu ((wu ((wu (q0_2 * 6364136223846793005)) + (wu x2))) + 1442695040888963407))) else some ((wr (andU (shrU (wu ((wu ((wu (q0_2 * 6364136223846793005)) + (wu x2))) + 1442695040888963407)) 40) 255), wr (q0_1 + 1), wu ((wu ((wu (q0_2 * 6364136223846793005)) + (wu x2))) + 1442695040888963407))))) s1

def m_spec_l00Src_pick_bspecl00Src (l0_0 : List (Int)) (q0_1 : Int) (q0_2 : Int) (p1 : Int) : Option ((Int) × (Int) × (Int)) :=
  (bif decide (p1 ≤ 1) then some ((0, q0_1, q0_2)) else Option.bind (m_spec_l00Src_next_bspecl00Src l0_0 q0_1 q0_2) fun y1 => Option.bind ((bif decide (p1 > 200) then Option.bind (m_spec_l00Src_next_bspecl00Src l0_0 y1.2.1 y1.2.2) fun y2 => some ((wr ((wr (y1.1 * 256)) + y2.1), y2.2.1, y2.2.2)) else some ((y1.1, y1.2.1, y1.2.2)))) fun (s1 : Int × Int × Int) => match s1 with | (x1, x2, x3) => Option.bind (nzC p1) fun u1 => some ((Int.tmod x1 p1, x2, x3)))

noncomputable def m_spec_l05DrawOk_bspecl00Src_s1 (l0_0 : List (Int)) (s1 : (List (Int × Int)) × Int × Int × Int) : Option (Ctl ((List (Int × Int)) × Int × Int × Int) ((List (Int × Int)) × Int × Int)) :=
  match s1 with | (l1, x1, x2, x3) => (bif decide (x1 > 0) then Option.bind (Option.bind (m_spec_l00Src_pick_bspecl00Src l0_0 x2 x3 9) fun y1 => Option.bind (m_spec_l00Src_pick_bspecl00Src l0_0 y1.2.1 y1.2.2 9) fun y2 => Option.bind (m_spec_l01Index l1 y1.1 y2.1) fun y3 => (bif decide (y3 < 0) then Option.bind (apC l1 (([(y1.1, y2.1)] : List (Int × Int)))) fun _ => some ((l1 ++ (([(y1.1, y2.1)] : List (Int × Int))), y2.2.1, y2.2.2)) else some ((l1, y2.2.1, y2.2.2)))) fun (s2 : (List (Int × Int)) × Int × Int) => match s2 with | (l2, x4, x5) => some (Ctl.next ((l2, wr (x1 - 1), x4, x5))) else some (Ctl.out ((l1, x2, x3))))
noncomputable def m_spec_l05DrawOk_bspecl00Src (l0_0 : List (Int)) (q0_1 : Int) (q0_2 : Int) (p1 : Int) : Option ((List (Int × Int)) × (Int) × (Int)) :=
  Option.bind (m_spec_l00Src_pick_bspecl00Src l0_0 q0_1 q0_2 p1) fun y4 => Option.bind (loopM (m_spec_l05DrawOk_bspecl00Src_s1 l0_0) ((([] : List (Int × Int)), wr (1 + y4.1), y4.2.1, y4.2.2))) fun (r1 : (List (Int × Int)) × Int × Int) => match r1 with | (l3, x6, x7) => some ((l3, x6, x7))

noncomputable def m_spec_B10Pins (l0 : List (Int)) (p1 : Int) : Option ((List (Int × Int))) :=
  Option.bind (m_spec_l00From l0) fun y1 => Option.bind (m_spec_l05DrawOk_bspecl00Src l0 y1.1 y1.2 p1) fun y2 => some y2.1

noncomputable def m_impl_ArePins (l0 : List (Int × Int)) : Option ((Bool)) :=
  Option.bind (m_impl_pinsOk l0 20) fun y1 => some y1

def m_impl_hanan_s4 (l0 : List (Int × Int)) (x1 : Int × Int) (s1 : (List (Int × Int)) × Int) : Option (Ctl ((List (Int × Int)) × Int) ((List (Int × Int)))) :=
  match s1 with | (l1, x2) => (bif decide (x2 < (((l0).length : Int))) then Option.bind (geti l0 x2) fun x3 => Option.bind (apC l1 (([(x1.1, x3.2)] : List (Int × Int)))) fun _ => some (Ctl.next ((l1 ++ (([(x1.1, x3.2)] : List (Int × Int))), wr (x2 + 1)))) else some (Ctl.out l1))
noncomputable def m_impl_hanan_s3 (l0 : List (Int × Int)) (s2 : (List (Int × Int)) × Int) : Option (Ctl ((List (Int × Int)) × Int) ((List (Int × Int)))) :=
  match s2 with | (l2, x4) => (bif decide (x4 < (((l0).length : Int))) then Option.bind (geti l0 x4) fun x1 => Option.bind (loopM (m_impl_hanan_s4 l0 x1) ((l2, 0))) fun (r1 : (List (Int × Int))) => (fun (l3 : List (Int × Int)) => some (Ctl.next ((l3, wr (x4 + 1))))) r1 else some (Ctl.out l2))
noncomputable def m_impl_hanan (l0 : List (Int × Int)) : Option ((List (Int × Int))) :=
  Option.bind (loopM (m_impl_hanan_s3 l0) ((([] : List (Int × Int)), 0))) fun (r2 : (List (Int × Int))) => (fun (l4 : List (Int × Int)) => Option.bind (m_impl_sorted l4) fun y1 => some y1) r2

def m_impl_star_s1 (l0 : List (Int × Int)) (p1_0 : Int) (p1_1 : Int) (s1 : Int × Int) : Option (Ctl (Int × Int) (Int)) :=
  match s1 with | (x1, x2) => (bif decide (x2 < (((l0).length : Int))) then Option.bind (geti l0 x2) fun x3 => Option.bind (m_impl_far x3.1 x3.2 p1_0 p1_1) fun y1 => some (Ctl.next ((wr (x1 + y1), wr (x2 + 1)))) else some (Ctl.out x1))
noncomputable def m_impl_star (l0 : List (Int × Int)) (p1_0 : Int) (p1_1 : Int) : Option ((Int)) :=
  Option.bind (loopM (m_impl_star_s1 l0 p1_0 p1_1) ((0, 0))) fun (r1 : Int) => (fun (x4 : Int) => some x4) r1

noncomputable def m_impl_BestRoot_s1 (l0 : List (Int × Int)) (y1 : (List (Int × Int))) (s1 : Int × Int × Int) : Option (Ctl (Int × Int × Int) (Int × Int)) :=
  match s1 with | (x1, x2, x3) => (bif decide (x1 < (((y1).length : Int))) then Option.bind (Option.bind (geti y1 x1) fun x4 => Option.bind (m_impl_star l0 x4.1 x4.2) fun y2 => Option.bind (m_impl_star l0 x2 x3) fun y3 => (bif decide (y2 < y3) then some ((x4.1, x4.2)) else some ((x2, x3)))) fun (s2 : Int × Int) => match s2 with | (x5, x6) => some (Ctl.next ((wr (x1 + 1), x5, x6))) else some (Ctl.out ((x2, x3))))
noncomputable def m_impl_BestRoot (l0 : List (Int × Int)) : Option ((Int × Int) × (Int) × (Bool)) :=
  Option.bind (m_impl_ArePins l0) fun y4 => (bif !y4 then some (((0, 0), 0, false)) else Option.bind (m_impl_hanan l0) fun y1 => Option.bind (geti y1 0) fun x7 => Option.bind (loopM (m_impl_BestRoot_s1 l0 y1) ((0, x7.1, x7.2))) fun (r1 : Int × Int) => match r1 with | (x8, x9) => Option.bind (m_impl_star l0 x8 x9) fun y5 => some (((x8, x9), y5, true)))

noncomputable def m_impl_StarLength (l0 : List (Int × Int)) (p1_0 : Int) (p1_1 : Int) : Option ((Int) × (Bool)) :=
  Option.bind (m_impl_ArePins l0) fun y1 => (bif !y1 then some ((0, false)) else Option.bind (m_impl_IsPoint p1_0 p1_1) fun y2 => (bif !y2 then some ((0, false)) else Option.bind (m_impl_star l0 p1_0 p1_1) fun y3 => some ((y3, true))))

def m_laws_b10At (l0 : List (Int)) (p1 : Int) (p2 : Int) : Option ((Int)) :=
  (bif decide (p2 ≤ 1) then some 0 else (bif decide (p1 < (((l0).length : Int))) then Option.bind (geti l0 p1) fun x1 => Option.bind (nzC p2) fun u1 => some (Int.tmod (wr x1) p2) else Option.bind (nzC p2) fun u2 => some (Int.tmod (wr ((wr (p1 * 37)) + 11)) p2)))

def m_laws_b10Pin (l0 : List (Int)) (p1 : Int) : Option ((Int × Int)) :=
  Option.bind (m_laws_b10At l0 p1 10) fun y1 => Option.bind (m_laws_b10At l0 (wr (p1 + 1)) 10) fun y2 => some ((y1, y2))

noncomputable def m_spec_SpanningTree (l0 : List (Int × Int)) : Option ((List (List (Int))) × (Int) × (Bool)) :=
  Option.bind (m_spec_l05Is l0) fun y1 => (bif !y1 then some (([], 0, false)) else Option.bind (m_spec_l05Tree l0) fun y2 => Option.bind (m_spec_l05Pairs y2.1) fun y3 => some ((y3, y2.2, true)))

def m_spec_l01Before (p0_0 : Int) (p0_1 : Int) (p1_0 : Int) (p1_1 : Int) : Option ((Bool)) :=
  (bif decide (p0_0 < p1_0) then some true else (bif p0_0 == p1_0 then some (decide (p0_1 < p1_1)) else some false))

noncomputable def m_spec_l01Sorted_s4 (l0 : List (Int × Int)) (l1 : List (Int × Int)) (x1 : Int) (s1 : Int) : Option (Ctl (Int) (Int)) :=
  (fun (x2 : Int) => (bif decide (x2 < (((l1).length : Int))) then Option.bind (geti l1 x2) fun x3 => Option.bind (geti l0 x1) fun x4 => Option.bind (m_spec_l01Before x3.1 x3.2 x4.1 x4.2) fun y1 => (bif y1 then some (Ctl.next (wr (x2 + 1))) else some (Ctl.out x2)) else some (Ctl.out x2))) s1
noncomputable def m_spec_l01Sorted_s3 (l0 : List (Int × Int)) (s2 : (List (Int × Int)) × Int) : Option (Ctl ((List (Int × Int)) × Int) ((List (Int × Int)))) :=
  match s2 with | (l1, x1) => (bif decide (x1 < (((l0).length : Int))) then Option.bind (geti l0 x1) fun x5 => Option.bind (m_spec_l01Index l1 x5.1 x5.2) fun y2 => (bif decide (y2 ≥ 0) then some (Ctl.next ((l1, wr (x1 + 1)))) else Option.bind (loopM (m_spec_l01Sorted_s4 l0 l1 x1) 0) fun (r1 : Int) => (fun (x6 : Int) => Option.bind (slci l1 x6 (((l1).length : Int))) fun _ => Option.bind (apC (([] : List (Int × Int))) (slc l1 x6 (((l1).length : Int)))) fun _ => Option.bind (slci l1 0 x6) fun _ => Option.bind (geti l0 x1) fun x7 => Option.bind (apC (l1.take (Int.toNat x6)) (([(x7.1, x7.2)] : List (Int × Int)))) fun _ => Option.bind (apC ((l1.take (Int.toNat x6)) ++ (([(x7.1, x7.2)] : List (Int × Int)))) ((([] : List (Int × Int))) ++ (slc l1 x6 (((l1).length : Int))))) fun _ => some (Ctl.next ((((l1.take (Int.toNat x6)) ++ (([(x7.1, x7.2)] : List (Int × Int)))) ++ ((([] : List (Int × Int))) ++ (slc l1 x6 (((l1).length : Int)))), wr (x1 + 1))))) r1) else some (Ctl.out l1))
noncomputable def m_spec_l01Sorted (l0 : List (Int × Int)) : Option ((List (Int × Int))) :=
  Option.bind (loopM (m_spec_l01Sorted_s3 l0) ((([] : List (Int × Int)), 0))) fun (r2 : (List (Int × Int))) => (fun (l2 : List (Int × Int)) => some l2) r2

def m_spec_l05Hanan_s4 (l0 : List (Int × Int)) (x1 : Int) (s1 : (List (Int × Int)) × Int) : Option (Ctl ((List (Int × Int)) × Int) ((List (Int × Int)))) :=
  match s1 with | (l1, x2) => (bif decide (x2 < (((l0).length : Int))) then Option.bind (geti l0 x1) fun x3 => Option.bind (geti l0 x2) fun x4 => Option.bind (apC l1 (([(x3.1, x4.2)] : List (Int × Int)))) fun _ => some (Ctl.next ((l1 ++ (([(x3.1, x4.2)] : List (Int × Int))), wr (x2 + 1)))) else some (Ctl.out l1))
noncomputable def m_spec_l05Hanan_s3 (l0 : List (Int × Int)) (s2 : (List (Int × Int)) × Int) : Option (Ctl ((List (Int × Int)) × Int) ((List (Int × Int)))) :=
  match s2 with | (l2, x1) => (bif decide (x1 < (((l0).length : Int))) then Option.bind (loopM (m_spec_l05Hanan_s4 l0 x1) ((l2, 0))) fun (r1 : (List (Int × Int))) => (fun (l3 : List (Int × Int)) => some (Ctl.next ((l3, wr (x1 + 1))))) r1 else some (Ctl.out l2))
noncomputable def m_spec_l05Hanan (l0 : List (Int × Int)) : Option ((List (Int × Int))) :=
  Option.bind (loopM (m_spec_l05Hanan_s3 l0) ((([] : List (Int × Int)), 0))) fun (r2 : (List (Int × Int))) => (fun (l4 : List (Int × Int)) => Option.bind (m_spec_l01Sorted l4) fun y1 => some y1) r2

def m_spec_l00Own (l0 : List (Int)) : Option ((List (Int))) :=
  Option.bind (apC (([] : List (Int))) l0) fun _ => some ((([] : List (Int))) ++ l0)

def m_spec_l00Min (p0 : Int) (p1 : Int) : Option ((Int)) :=
  (bif decide (p0 < p1) then some p0 else some p1)

noncomputable def m_spec_l05Steiner_s30 (x1 : Int) (x2 : Int) (l1 : List (List (Int))) (s1 : Int × Int) : Option (Ctl (Int × Int) (Int)) :=
  match s1 with | (x3, x4) => (bif decide (x4 > 0) then Option.bind (Option.bind (geti l1 x4) fun x5 => Option.bind (geti x5 x2) fun x6 => Option.bind (geti l1 (andNI x1 x4)) fun x7 => Option.bind (geti x7 x2) fun x8 => (bif decide (x3 < 0) then some (wr (x6 + x8)) else (bif decide ((wr (x6 + x8)) < x3) then some (wr (x6 + x8)) else some x3))) fun (s2 : Int) => (fun (x9 : Int) => some (Ctl.next ((x9, andI (wr (x4 - 1)) x1)))) s2 else some (Ctl.out x3))
noncomputable def m_spec_l05Steiner_s29 (l0 : List (Int × Int)) (y1 : (List (Int × Int))) (x1 : Int) (x2 : Int) (s3 : Int × Int) : Option (Ctl (Int × Int) (Int)) :=
  match s3 with | (x10, x11) => (bif decide (x11 < (((l0).length : Int))) then Option.bind (Option.bind (p0C (wu x11)) fun u1 => (bif x1 == (shlI 1 (wu x11)) then Option.bind (geti l0 x11) fun x12 => Option.bind (geti y1 x2) fun x13 => Option.bind (m_spec_l01Far x12.1 x12.2 x13.1 x13.2) fun y2 => some y2 else some x10)) fun (s4 : Int) => (fun (x14 : Int) => some (Ctl.next ((x14, wr (x11 + 1))))) s4 else some (Ctl.out x10))
noncomputable def m_spec_l05Steiner_s34 (y1 : (List (Int × Int))) (x1 : Int) (y3 : (List (Int))) (x15 : Int) (s5 : Int × (List (List (Int)))) : Option (Ctl (Int × (List (List (Int)))) ((List (List (Int))))) :=
  match s5 with | (x16, l2) => (bif decide (x16 < (((y1).length : Int))) then Option.bind (geti l2 x1) fun x17 => Option.bind (geti l2 x1) fun x18 => Option.bind (geti x18 x15) fun x19 => Option.bind (geti y3 x16) fun x20 => Option.bind (geti y1 x16) fun x21 => Option.bind (geti y1 x15) fun x22 => Option.bind (m_spec_l01Far x21.1 x21.2 x22.1 x22.2) fun y4 => Option.bind (m_spec_l00Min x19 (wr (x20 + y4))) fun y5 => Option.bind (geti x17 x15) fun x23 => some (Ctl.next ((wr (x16 + 1), l2.set (Int.toNat x1) (x17.set (Int.toNat x15) y5)))) else some (Ctl.out l2))
noncomputable def m_spec_l05Steiner_s33 (y1 : (List (Int × Int))) (x1 : Int) (y3 : (List (Int))) (s6 : Int × (List (List (Int)))) : Option (Ctl (Int × (List (List (Int)))) ((List (List (Int))))) :=
  match s6 with | (x15, l3) => (bif decide (x15 < (((y1).length : Int))) then Option.bind (loopM (m_spec_l05Steiner_s34 y1 x1 y3 x15) ((0, l3))) fun (r1 : (List (List (Int)))) => (fun (l4 : List (List (Int))) => some (Ctl.next ((wr (x15 + 1), l4)))) r1 else some (Ctl.out l3))
noncomputable def m_spec_l05Steiner_s28 (l0 : List (Int × Int)) (y1 : (List (Int × Int))) (x1 : Int) (s7 : Int × (List (List (Int)))) : Option (Ctl (Int × (List (List (Int)))) ((List (List (Int))))) :=
  match s7 with | (x2, l1) => (bif decide (x2 < (((y1).length : Int))) then Option.bind (loopM (m_spec_l05Steiner_s29 l0 y1 x1 x2) (((-1), 0))) fun (r2 : Int) => (fun (x24 : Int) => Option.bind (loopM (m_spec_l05Steiner_s30 x1 x2 l1) ((x24, andI (wr (x1 - 1)) x1))) fun (r3 : Int) => (fun (x25 : Int) => Option.bind (geti l1 x1) fun x26 => Option.bind (geti x26 x2) fun x27 => some (Ctl.next ((wr (x2 + 1), l1.set (Int.toNat x1) (x26.set (Int.toNat x2) x25))))) r3) r2 else some (Ctl.out l1))
noncomputable def m_spec_l05Steiner_s35 (l0 : List (Int × Int)) (y1 : (List (Int × Int))) (l5 : List (List (Int))) (s8 : Int × Int) : Option (Ctl (Int × Int) (Int)) :=
  match s8 with | (x28, x29) => (bif decide (x29 < (((y1).length : Int))) then Option.bind (geti l5 (wr ((shlI 1 (wu (((l0).length : Int)))) - 1))) fun x30 => Option.bind (geti x30 x29) fun x31 => Option.bind (m_spec_l00Min x28 x31) fun y6 => some (Ctl.next ((y6, wr (x29 + 1)))) else some (Ctl.out x28))
noncomputable def m_spec_l05Steiner_s23 (l0 : List (Int × Int)) (y1 : (List (Int × Int))) (s9 : (List (List (Int))) × Int) : Option (Ctl ((List (List (Int))) × Int) ((List (List (Int))))) :=
  match s9 with | (l6, x1) => (bif decide (x1 < (shlI 1 (wu (((l0).length : Int))))) then Option.bind (mkC (((y1).length : Int))) fun _ => Option.bind (geti l6 x1) fun x32 => Option.bind (loopM (m_spec_l05Steiner_s28 l0 y1 x1) ((0, l6.set (Int.toNat x1) (List.replicate (Int.toNat (((y1).length : Int))) ((0 : Int)))))) fun (r4 : (List (List (Int)))) => (fun (l7 : List (List (Int))) => Option.bind (geti l7 x1) fun x33 => Option.bind (m_spec_l00Own x33) fun y3 => Option.bind (loopM (m_spec_l05Steiner_s33 y1 x1 y3) ((0, l7))) fun (r5 : (List (List (Int)))) => (fun (l8 : List (List (Int))) => some (Ctl.next ((l8, wr (x1 + 1))))) r5) r4 else some (Ctl.out l6))
noncomputable def m_spec_l05Steiner (l0 : List (Int × Int)) : Option ((Int)) :=
  Option.bind (m_spec_l05Hanan l0) fun y1 => Option.bind (p0C (wu (((l0).length : Int)))) fun u2 => Option.bind (mkC (shlI 1 (wu (((l0).length : Int))))) fun _ => Option.bind (loopM (m_spec_l05Steiner_s23 l0 y1) ((List.replicate (Int.toNat (shlI 1 (wu (((l0).length : Int))))) ([] : List (Int)), 1))) fun (r6 : (List (List (Int)))) => (fun (l5 : List (List (Int))) => Option.bind (geti l5 (wr ((shlI 1 (wu (((l0).length : Int)))) - 1))) fun x34 => Option.bind (geti x34 0) fun x35 => Option.bind (loopM (m_spec_l05Steiner_s35 l0 y1 l5) ((x35, 1))) fun (r7 : Int) => (fun (x36 : Int) => some x36) r7) r6

noncomputable def m_spec_SteinerLength (l0 : List (Int × Int)) : Option ((Int) × (Bool)) :=
  Option.bind (m_spec_l05Few l0) fun y1 => (bif !y1 then some ((0, false)) else Option.bind (m_spec_l05Steiner l0) fun y2 => some ((y2, true)))

def m_laws_b10Abs (p0 : Int) : Option ((Int)) :=
  (bif decide (p0 < 0) then some (wr (0 - p0)) else some p0)

def m_laws_b10Far (p0_0 : Int) (p0_1 : Int) (p1_0 : Int) (p1_1 : Int) : Option ((Int)) :=
  Option.bind (m_laws_b10Abs (wr (p0_0 - p1_0))) fun y1 => Option.bind (m_laws_b10Abs (wr (p0_1 - p1_1))) fun y2 => some (wr (y1 + y2))

noncomputable def m_laws_FnRoots_s1 (y1 : (List (Int × Int))) (y2 : (Int × Int) × (Int) × (Bool)) (s1 : Int × Int) : Option (Ctl (Int × Int) (Int)) :=
  match s1 with | (x1, x2) => (bif decide (x2 < (((y1).length : Int))) then Option.bind (geti y1 x2) fun x3 => Option.bind (m_laws_b10Far x3.1 x3.2 y2.1.1 y2.1.2) fun y3 => some (Ctl.next ((wr (x1 + y3), wr (x2 + 1)))) else some (Ctl.out x1))
noncomputable def m_laws_FnRoots (l0 : List (Int)) (l1 : List (Int)) : Option ((Bool)) :=
  Option.bind (m_laws_b10Long l0 l1) fun y4 => (bif y4 then some true else Option.bind (m_spec_B10Pins l0 6) fun y1 => Option.bind (m_impl_BestRoot y1) fun y2 => Option.bind (m_impl_StarLength y1 y2.1.1 y2.1.2) fun y5 => Option.bind (m_laws_b10Pin l1 0) fun y6 => Option.bind (m_impl_StarLength y1 y6.1 y6.2) fun y7 => Option.bind (m_impl_BendTree y1) fun y8 => Option.bind (m_spec_SpanningTree y1) fun y9 => Option.bind (m_spec_SteinerLength y1) fun y10 => (bif !y2.2.2 then some false else (bif !y5.2 then some false else (bif !y7.2 then some false else (bif !y8.2.2 then some false else (bif !y9.2.2 then some false else (bif !y10.2 then some false else (bif y5.1 != y2.2.1 then some false else (bif decide (y7.1 < y2.2.1) then some false else (bif decide (y8.2.1 > y9.2.1) then some false else (bif decide (y8.2.1 < y10.1) then some false else (bif (((y8.1).size : Int)) != (wr ((((y1).length : Int)) - 1)) then some false else Option.bind (loopM (m_laws_FnRoots_s1 y1 y2) ((0, 0))) fun (r1 : Int) => (fun (x4 : Int) => some (x4 == y2.2.1)) r1))))))))))))

end Go.Proofs.Ytdmokbjaeikfdaa
