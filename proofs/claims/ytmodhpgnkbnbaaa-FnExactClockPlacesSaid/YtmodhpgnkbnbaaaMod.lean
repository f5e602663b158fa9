/- Printed models: what each function reckons, in plain Lean. -/
import Derived.Test.YtmodhpgnkbnbaaaMap
set_option linter.unusedSimpArgs false
set_option linter.unusedVariables false
namespace Go.Proofs.Ytmodhpgnkbnbaaa
open Go.RowKit

def m_spec_l00In (p0 : Int) (p1 : Int) (p2 : Int) : Option ((Bool)) :=
  (bif decide (p0 ≥ p1) then some (decide (p0 ≤ p2)) else some false)

def m_spec_l06End (p0 : Int) : Option ((Bool)) :=
  Option.bind (m_spec_l00In p0 ((-1000000000)) 1000000000) fun y1 => some y1

def m_spec_l06Is (p0_0 : Int) (p0_1 : Int) (p0_2 : Int) (p0_3 : Int) : Option ((Bool)) :=
  Option.bind (m_spec_l06End p0_0) fun y7 => (bif y7 then Option.bind (m_spec_l06End p0_1) fun y12 => (bif y12 then Option.bind (m_spec_l06End p0_2) fun y17 => (bif y17 then Option.bind (m_spec_l06End p0_3) fun y22 => (bif y22 then (bif decide (p0_0 ≤ p0_1) then some (decide (p0_2 ≤ p0_3)) else some false) else some false) else some false) else some false) else some false)

def m_spec_ValidRegion (p0_0 : Int) (p0_1 : Int) (p0_2 : Int) (p0_3 : Int) : Option ((Bool)) :=
  Option.bind (m_spec_l06Is p0_0 p0_1 p0_2 p0_3) fun y7 => some y7

def m_laws_toRegion (p0_0 : Int) (p0_1 : Int) (p0_2 : Int) (p0_3 : Int) : Option ((Int × Int × Int × Int)) :=
  some ((p0_0, p0_1, p0_2, p0_3))

def m_impl_in (p0 : Int) (p1 : Int) (p2 : Int) : Option ((Bool)) :=
  (bif decide (p0 ≥ p1) then some (decide (p0 ≤ p2)) else some false)

def m_impl_ValidRegion (p0_0 : Int) (p0_1 : Int) (p0_2 : Int) (p0_3 : Int) : Option ((Bool)) :=
  Option.bind (m_impl_in p0_0 ((-1000000000)) p0_1) fun y7 => (bif y7 then Option.bind (m_impl_in p0_2 ((-1000000000)) p0_3) fun y12 => (bif y12 then (bif decide (p0_1 ≤ 1000000000) then some (decide (p0_3 ≤ 1000000000)) else some false) else some false) else some false)

def m_laws_FnExactValidRegion (p0_0 : Int) (p0_1 : Int) (p0_2 : Int) (p0_3 : Int) : Option ((Bool)) :=
  Option.bind (m_laws_toRegion p0_0 p0_1 p0_2 p0_3) fun y7 => Option.bind (m_spec_ValidRegion y7.1 y7.2.1 y7.2.2.1 y7.2.2.2) fun y11 => Option.bind (m_laws_toRegion p0_0 p0_1 p0_2 p0_3) fun y15 => Option.bind (m_impl_ValidRegion y15.1 y15.2.1 y15.2.2.1 y15.2.2.2) fun y19 => (bif !(y19 == y11) then some false else some true)

def m_spec_l01Point (p0_0 : Int) (p0_1 : Int) : Option ((Bool)) :=
  Option.bind (m_spec_l00In p0_0 0 99) fun y7 => (bif y7 then Option.bind (m_spec_l00In p0_1 0 99) fun y12 => some y12 else some false)

def m_spec_l00Max (p0 : Int) (p1 : Int) : Option ((Int)) :=
  (bif decide (p0 > p1) then some p0 else some p1)

def m_spec_l01Abs (p0 : Int) : Option ((Int)) :=
  Option.bind (m_spec_l00Max p0 (wr (0 - p0))) fun y1 => some y1

def m_spec_l01Far (p0_0 : Int) (p0_1 : Int) (p1_0 : Int) (p1_1 : Int) : Option ((Int)) :=
  Option.bind (m_spec_l01Abs (wr (p0_0 - p1_0))) fun y30 => Option.bind (m_spec_l01Abs (wr (p0_1 - p1_1))) fun y34 => some (wr (y30 + y34))

def m_spec_DistanceOf (p0_0 : Int) (p0_1 : Int) (p1_0 : Int) (p1_1 : Int) : Option ((Int) × (Bool)) :=
  Option.bind (m_spec_l01Point p0_0 p0_1) fun y14 => (bif !y14 then some ((0, false)) else Option.bind (m_spec_l01Point p1_0 p1_1) fun y19 => (bif !y19 then some ((0, false)) else Option.bind (m_spec_l01Far p0_0 p0_1 p1_0 p1_1) fun y24 => some ((y24, true))))

def m_laws_toPoint (p0_0 : Int) (p0_1 : Int) : Option ((Int × Int)) :=
  some ((p0_0, p0_1))

def m_impl_IsPoint (p0_0 : Int) (p0_1 : Int) : Option ((Bool)) :=
  Option.bind (m_impl_in p0_0 0 99) fun y7 => (bif y7 then Option.bind (m_impl_in p0_1 0 99) fun y12 => some y12 else some false)

def m_impl_size (p0 : Int) : Option ((Int)) :=
  some (if (wr (0 - p0)) > p0 then (wr (0 - p0)) else p0)

def m_impl_far (p0_0 : Int) (p0_1 : Int) (p1_0 : Int) (p1_1 : Int) : Option ((Int)) :=
  Option.bind (m_impl_size (wr (p0_0 - p1_0))) fun y30 => Option.bind (m_impl_size (wr (p0_1 - p1_1))) fun y34 => some (wr (y30 + y34))

def m_impl_DistanceOf (p0_0 : Int) (p0_1 : Int) (p1_0 : Int) (p1_1 : Int) : Option ((Int) × (Bool)) :=
  Option.bind (m_impl_IsPoint p0_0 p0_1) fun y14 => (bif !y14 then some ((0, false)) else Option.bind (m_impl_IsPoint p1_0 p1_1) fun y19 => (bif !y19 then some ((0, false)) else Option.bind (m_impl_far p0_0 p0_1 p1_0 p1_1) fun y24 => some ((y24, true))))

def m_laws_FnExactDistanceOf (p0_0 : Int) (p0_1 : Int) (p1_0 : Int) (p1_1 : Int) : Option ((Bool)) :=
  Option.bind (m_laws_toPoint p0_0 p0_1) fun y34 => Option.bind (m_laws_toPoint p1_0 p1_1) fun y38 => Option.bind (m_spec_DistanceOf y34.1 y34.2 y38.1 y38.2) fun y42 => Option.bind (m_laws_toPoint p0_0 p0_1) fun y66 => Option.bind (m_laws_toPoint p1_0 p1_1) fun y70 => Option.bind (m_impl_DistanceOf y66.1 y66.2 y70.1 y70.2) fun y74 => (bif y74.1 != y42.1 then some false else (bif !(y74.2 == y42.2) then some false else some true))

def m_spec_l06Far (p0_0 : Int) (p0_1 : Int) (p0_2 : Int) (p0_3 : Int) (p1_0 : Int) (p1_1 : Int) (p1_2 : Int) (p1_3 : Int) : Option ((Int)) :=
  Option.bind (m_spec_l00Max (wr (p0_0 - p1_1)) (wr (p1_0 - p0_1))) fun y14 => Option.bind (m_spec_l00Max 0 y14) fun y18 => Option.bind (m_spec_l00Max (wr (p0_2 - p1_3)) (wr (p1_2 - p0_3))) fun y22 => Option.bind (m_spec_l00Max 0 y22) fun y26 => Option.bind (m_spec_l00Max y18 y26) fun y31 => some y31

def m_spec_FarRegions (p0_0 : Int) (p0_1 : Int) (p0_2 : Int) (p0_3 : Int) (p1_0 : Int) (p1_1 : Int) (p1_2 : Int) (p1_3 : Int) : Option ((Int) × (Bool)) :=
  Option.bind (m_spec_l06Is p0_0 p0_1 p0_2 p0_3) fun y14 => (bif !y14 then some ((0, false)) else Option.bind (m_spec_l06Is p1_0 p1_1 p1_2 p1_3) fun y19 => (bif !y19 then some ((0, false)) else Option.bind (m_spec_l06Far p0_0 p0_1 p0_2 p0_3 p1_0 p1_1 p1_2 p1_3) fun y24 => some ((y24, true))))

def m_impl_Region_far (p0_0 : Int) (p0_1 : Int) (p0_2 : Int) (p0_3 : Int) (p1_0 : Int) (p1_1 : Int) (p1_2 : Int) (p1_3 : Int) : Option ((Int)) :=
  some (if (wr (p1_2 - p0_3)) > (if (wr (p0_2 - p1_3)) > (if (wr (p1_0 - p0_1)) > (if (wr (p0_0 - p1_1)) > 0 then (wr (p0_0 - p1_1)) else 0) then (wr (p1_0 - p0_1)) else (if (wr (p0_0 - p1_1)) > 0 then (wr (p0_0 - p1_1)) else 0)) then (wr (p0_2 - p1_3)) else (if (wr (p1_0 - p0_1)) > (if (wr (p0_0 - p1_1)) > 0 then (wr (p0_0 - p1_1)) else 0) then (wr (p1_0 - p0_1)) else (if (wr (p0_0 - p1_1)) > 0 then (wr (p0_0 - p1_1)) else 0))) then (wr (p1_2 - p0_3)) else (if (wr (p0_2 - p1_3)) > (if (wr (p1_0 - p0_1)) > (if (wr (p0_0 - p1_1)) > 0 then (wr (p0_0 - p1_1)) else 0) then (wr (p1_0 - p0_1)) else (if (wr (p0_0 - p1_1)) > 0 then (wr (p0_0 - p1_1)) else 0)) then (wr (p0_2 - p1_3)) else (if (wr (p1_0 - p0_1)) > (if (wr (p0_0 - p1_1)) > 0 then (wr (p0_0 - p1_1)) else 0) then (wr (p1_0 - p0_1)) else (if (wr (p0_0 - p1_1)) > 0 then (wr (p0_0 - p1_1)) else 0))))

def m_impl_FarRegions (p0_0 : Int) (p0_1 : Int) (p0_2 : Int) (p0_3 : Int) (p1_0 : Int) (p1_1 : Int) (p1_2 : Int) (p1_3 : Int) : Option ((Int) × (Bool)) :=
  Option.bind (m_impl_ValidRegion p0_0 p0_1 p0_2 p0_3) fun y14 => (bif !y14 then some ((0, false)) else Option.bind (m_impl_ValidRegion p1_0 p1_1 p1_2 p1_3) fun y19 => (bif !y19 then some ((0, false)) else Option.bind (m_impl_Region_far p0_0 p0_1 p0_2 p0_3 p1_0 p1_1 p1_2 p1_3) fun y24 => some ((y24, true))))

def m_laws_FnExactFarRegions (p0_0 : Int) (p0_1 : Int) (p0_2 : Int) (p0_3 : Int) (p1_0 : Int) (p1_1 : Int) (p1_2 : Int) (p1_3 : Int) : Option ((Bool)) :=
  Option.bind (m_laws_toRegion p0_0 p0_1 p0_2 p0_3) fun y34 => Option.bind (m_laws_toRegion p1_0 p1_1 p1_2 p1_3) fun y38 => Option.bind (m_spec_FarRegions y34.1 y34.2.1 y34.2.2.1 y34.2.2.2 y38.1 y38.2.1 y38.2.2.1 y38.2.2.2) fun y42 => Option.bind (m_laws_toRegion p0_0 p0_1 p0_2 p0_3) fun y66 => Option.bind (m_laws_toRegion p1_0 p1_1 p1_2 p1_3) fun y70 => Option.bind (m_impl_FarRegions y66.1 y66.2.1 y66.2.2.1 y66.2.2.2 y70.1 y70.2.1 y70.2.2.1 y70.2.2.2) fun y74 => (bif y74.1 != y42.1 then some false else (bif !(y74.2 == y42.2) then some false else some true))

def m_spec_l06Leaf (p0_0 : Int) (p0_1 : Int) : Option ((Int × Int × Int × Int)) :=
  some ((wr ((wr (p0_0 + p0_1)) * 4096), wr ((wr (p0_0 + p0_1)) * 4096), wr ((wr (p0_0 - p0_1)) * 4096), wr ((wr (p0_0 - p0_1)) * 4096)))

def m_spec_LeafRegion (p0_0 : Int) (p0_1 : Int) : Option ((Int × Int × Int × Int) × (Bool)) :=
  Option.bind (m_spec_l01Point p0_0 p0_1) fun y14 => (bif !y14 then some (((0, 0, 0, 0), false)) else Option.bind (m_spec_l06Leaf p0_0 p0_1) fun y22 => some (((y22.1, y22.2.1, y22.2.2.1, y22.2.2.2), true)))

def m_impl_leaf (p0_0 : Int) (p0_1 : Int) : Option ((Int × Int × Int × Int)) :=
  some ((wr ((wr (p0_0 + p0_1)) * 4096), wr ((wr (p0_0 + p0_1)) * 4096), wr ((wr (p0_0 - p0_1)) * 4096), wr ((wr (p0_0 - p0_1)) * 4096)))

def m_impl_LeafRegion (p0_0 : Int) (p0_1 : Int) : Option ((Int × Int × Int × Int) × (Bool)) :=
  Option.bind (m_impl_IsPoint p0_0 p0_1) fun y14 => (bif !y14 then some (((0, 0, 0, 0), false)) else Option.bind (m_impl_leaf p0_0 p0_1) fun y22 => some (((y22.1, y22.2.1, y22.2.2.1, y22.2.2.2), true)))

def m_laws_eqRegion (p0_0 : Int) (p0_1 : Int) (p0_2 : Int) (p0_3 : Int) (p1_0 : Int) (p1_1 : Int) (p1_2 : Int) (p1_3 : Int) : Option ((Bool)) :=
  (bif p0_0 != p1_0 then some false else (bif p0_1 != p1_1 then some false else (bif p0_2 != p1_2 then some false else (bif p0_3 != p1_3 then some false else some true))))

def m_laws_FnExactLeafRegion (p0_0 : Int) (p0_1 : Int) : Option ((Bool)) :=
  Option.bind (m_laws_toPoint p0_0 p0_1) fun y7 => Option.bind (m_spec_LeafRegion y7.1 y7.2) fun y11 => Option.bind (m_laws_toPoint p0_0 p0_1) fun y25 => Option.bind (m_impl_LeafRegion y25.1 y25.2) fun y29 => Option.bind (m_laws_eqRegion y29.1.1 y29.1.2.1 y29.1.2.2.1 y29.1.2.2.2 y11.1.1 y11.1.2.1 y11.1.2.2.1 y11.1.2.2.2) fun y44 => (bif !y44 then some false else (bif !(y29.2 == y11.2) then some false else some true))

def m_spec_l06Grow (p0_0 : Int) (p0_1 : Int) (p0_2 : Int) (p0_3 : Int) (p1 : Int) : Option ((Int × Int × Int × Int)) :=
  some ((wr (p0_0 - p1), wr (p0_1 + p1), wr (p0_2 - p1), wr (p0_3 + p1)))

def m_spec_GrowRegion (p0_0 : Int) (p0_1 : Int) (p0_2 : Int) (p0_3 : Int) (p1 : Int) : Option ((Int × Int × Int × Int) × (Bool)) :=
  Option.bind (m_spec_l06Is p0_0 p0_1 p0_2 p0_3) fun y14 => (bif !y14 then some (((0, 0, 0, 0), false)) else Option.bind (m_spec_l00In p1 0 1000000000) fun y22 => (bif !y22 then some (((0, 0, 0, 0), false)) else Option.bind (m_spec_l06Grow p0_0 p0_1 p0_2 p0_3 p1) fun y30 => Option.bind (m_spec_l06Is y30.1 y30.2.1 y30.2.2.1 y30.2.2.2) fun y45 => (bif !y45 then some (((0, 0, 0, 0), false)) else some (((y30.1, y30.2.1, y30.2.2.1, y30.2.2.2), true)))))

def m_impl_Region_grown (p0_0 : Int) (p0_1 : Int) (p0_2 : Int) (p0_3 : Int) (p1 : Int) : Option ((Int × Int × Int × Int)) :=
  some ((wr (p0_0 - p1), wr (p0_1 + p1), wr (p0_2 - p1), wr (p0_3 + p1)))

def m_impl_GrowRegion (p0_0 : Int) (p0_1 : Int) (p0_2 : Int) (p0_3 : Int) (p1 : Int) : Option ((Int × Int × Int × Int) × (Bool)) :=
  Option.bind (m_impl_ValidRegion p0_0 p0_1 p0_2 p0_3) fun y14 => (bif !y14 then some (((0, 0, 0, 0), false)) else Option.bind (m_impl_in p1 0 1000000000) fun y22 => (bif !y22 then some (((0, 0, 0, 0), false)) else Option.bind (m_impl_Region_grown p0_0 p0_1 p0_2 p0_3 p1) fun y30 => Option.bind (m_impl_ValidRegion y30.1 y30.2.1 y30.2.2.1 y30.2.2.2) fun y34 => (bif !y34 then some (((0, 0, 0, 0), false)) else Option.bind (m_impl_Region_grown p0_0 p0_1 p0_2 p0_3 p1) fun y42 => some (((y42.1, y42.2.1, y42.2.2.1, y42.2.2.2), true)))))

def m_laws_FnExactGrowRegion (p0_0 : Int) (p0_1 : Int) (p0_2 : Int) (p0_3 : Int) (p1 : Int) : Option ((Bool)) :=
  Option.bind (m_laws_toRegion p0_0 p0_1 p0_2 p0_3) fun y7 => Option.bind (m_spec_GrowRegion y7.1 y7.2.1 y7.2.2.1 y7.2.2.2 p1) fun y11 => Option.bind (m_laws_toRegion p0_0 p0_1 p0_2 p0_3) fun y25 => Option.bind (m_impl_GrowRegion y25.1 y25.2.1 y25.2.2.1 y25.2.2.2 p1) fun y29 => Option.bind (m_laws_eqRegion y29.1.1 y29.1.2.1 y29.1.2.2.1 y29.1.2.2.2 y11.1.1 y11.1.2.1 y11.1.2.2.1 y11.1.2.2.2) fun y44 => (bif !y44 then some false else (bif !(y29.2 == y11.2) then some false else some true))

def m_spec_l00Min (p0 : Int) (p1 : Int) : Option ((Int)) :=
  (bif decide (p0 < p1) then some p0 else some p1)

def m_spec_l06Meet (p0_0 : Int) (p0_1 : Int) (p0_2 : Int) (p0_3 : Int) (p1_0 : Int) (p1_1 : Int) (p1_2 : Int) (p1_3 : Int) : Option ((Int × Int × Int × Int)) :=
  Option.bind (m_spec_l00Max p0_0 p1_0) fun y51 => Option.bind (m_spec_l00Min p0_1 p1_1) fun y55 => Option.bind (m_spec_l00Max p0_2 p1_2) fun y59 => Option.bind (m_spec_l00Min p0_3 p1_3) fun y63 => some ((y51, y55, y59, y63))

def m_spec_MeetRegions (p0_0 : Int) (p0_1 : Int) (p0_2 : Int) (p0_3 : Int) (p1_0 : Int) (p1_1 : Int) (p1_2 : Int) (p1_3 : Int) : Option ((Int × Int × Int × Int) × (Bool)) :=
  Option.bind (m_spec_l06Is p0_0 p0_1 p0_2 p0_3) fun y22 => (bif !y22 then some (((0, 0, 0, 0), false)) else Option.bind (m_spec_l06Is p1_0 p1_1 p1_2 p1_3) fun y30 => (bif !y30 then some (((0, 0, 0, 0), false)) else Option.bind (m_spec_l06Meet p0_0 p0_1 p0_2 p0_3 p1_0 p1_1 p1_2 p1_3) fun y38 => Option.bind (m_spec_l06Is y38.1 y38.2.1 y38.2.2.1 y38.2.2.2) fun y54 => (bif !y54 then some (((0, 0, 0, 0), false)) else some (((y38.1, y38.2.1, y38.2.2.1, y38.2.2.2), true)))))

def m_impl_Region_meet (p0_0 : Int) (p0_1 : Int) (p0_2 : Int) (p0_3 : Int) (p1_0 : Int) (p1_1 : Int) (p1_2 : Int) (p1_3 : Int) : Option ((Int × Int × Int × Int) × (Bool)) :=
  (bif decide ((if p1_0 > p0_0 then p1_0 else p0_0) ≤ (if p1_1 < p0_1 then p1_1 else p0_1)) then some (((if p1_0 > p0_0 then p1_0 else p0_0, if p1_1 < p0_1 then p1_1 else p0_1, if p1_2 > p0_2 then p1_2 else p0_2, if p1_3 < p0_3 then p1_3 else p0_3), decide ((if p1_2 > p0_2 then p1_2 else p0_2) ≤ (if p1_3 < p0_3 then p1_3 else p0_3)))) else some (((if p1_0 > p0_0 then p1_0 else p0_0, if p1_1 < p0_1 then p1_1 else p0_1, if p1_2 > p0_2 then p1_2 else p0_2, if p1_3 < p0_3 then p1_3 else p0_3), false)))

def m_impl_MeetRegions (p0_0 : Int) (p0_1 : Int) (p0_2 : Int) (p0_3 : Int) (p1_0 : Int) (p1_1 : Int) (p1_2 : Int) (p1_3 : Int) : Option ((Int × Int × Int × Int) × (Bool)) :=
  Option.bind (m_impl_ValidRegion p0_0 p0_1 p0_2 p0_3) fun y22 => (bif !y22 then some (((0, 0, 0, 0), false)) else Option.bind (m_impl_ValidRegion p1_0 p1_1 p1_2 p1_3) fun y30 => (bif !y30 then some (((0, 0, 0, 0), false)) else Option.bind (m_impl_Region_meet p0_0 p0_1 p0_2 p0_3 p1_0 p1_1 p1_2 p1_3) fun y38 => (bif !y38.2 then some (((0, 0, 0, 0), false)) else some (((y38.1.1, y38.1.2.1, y38.1.2.2.1, y38.1.2.2.2), true)))))

def m_laws_FnExactMeetRegions (p0_0 : Int) (p0_1 : Int) (p0_2 : Int) (p0_3 : Int) (p1_0 : Int) (p1_1 : Int) (p1_2 : Int) (p1_3 : Int) : Option ((Bool)) :=
  Option.bind (Option.bind (m_laws_toRegion p0_0 p0_1 p0_2 p0_3) fun y211 => Option.bind (m_laws_toRegion p1_0 p1_1 p1_2 p1_3) fun y215 => Option.bind (m_spec_MeetRegions y211.1 y211.2.1 y211.2.2.1 y211.2.2.2 y215.1 y215.2.1 y215.2.2.1 y215.2.2.2) fun y219 => some ((y219.1.1, y219.1.2.1, y219.1.2.2.1, y219.1.2.2.2, y219.2))) fun (s205 : Int × Int × Int × Int × Bool) => match s205 with | (x192, x193, x194, x195, x197) => Option.bind (Option.bind (m_laws_toRegion p0_0 p0_1 p0_2 p0_3) fun y501 => Option.bind (m_laws_toRegion p1_0 p1_1 p1_2 p1_3) fun y505 => Option.bind (m_impl_MeetRegions y501.1 y501.2.1 y501.2.2.1 y501.2.2.2 y505.1 y505.2.1 y505.2.2.1 y505.2.2.2) fun y509 => some ((y509.1.1, y509.1.2.1, y509.1.2.2.1, y509.1.2.2.2, y509.2))) fun (s494 : Int × Int × Int × Int × Bool) => match s494 with | (x483, x484, x485, x486, x488) => Option.bind (m_laws_eqRegion x483 x484 x485 x486 x192 x193 x194 x195) fun y589 => (bif !y589 then some false else (bif !(x488 == x197) then some false else some true))

def m_laws_szInt64S (l0 : List (Int)) (p1 : Int) : Option ((Int)) :=
  (bif decide ((wr (p1 - (((l0).length : Int)))) < 0) then some ((-1)) else some (wr (p1 - (((l0).length : Int)))))

noncomputable def m_laws_szInt64SS_s1 (l0 : List (List (Int))) (s46 : Int × Int) : Option (Ctl (Int × Int) (Sum (Int) ((Int)))) :=
  match s46 with | (x39, x40) => (bif decide (x40 < (((l0).length : Int))) then Option.bind (geti l0 x40) fun x50 => Option.bind (m_laws_szInt64S x50 x39) fun y57 => (bif decide (y57 < 0) then some (Ctl.out (Sum.inr ((-1)))) else some (Ctl.next ((y57, wr (x40 + 1))))) else some (Ctl.out (Sum.inl x39)))
noncomputable def m_laws_szInt64SS (l0 : List (List (Int))) (p1 : Int) : Option ((Int)) :=
  (bif decide ((wr (p1 - (((l0).length : Int)))) < 0) then some ((-1)) else Option.bind (loopM (m_laws_szInt64SS_s1 l0) ((wr (p1 - (((l0).length : Int))), 0))) fun (r43 : Sum (Int) ((Int))) => match r43 with | Sum.inl q64 => ((fun (x36 : Int) => some x36) q64) | Sum.inr v63 => some v63)

noncomputable def m_spec_l06Joins_s1 (p0 : Int) (l1 : List (List (Int))) (s408 : Int × (List (Bool))) : Option (Ctl (Int × (List (Bool))) (Sum (Unit) ((Bool)))) :=
  match s408 with | (x400, l401) => (bif decide (x400 < (wr (p0 - 1))) then Option.bind (geti l1 x400) fun x492 => (bif (((x492).length : Int)) != 2 then some (Ctl.out (Sum.inr false)) else Option.bind (geti l1 x400) fun x501 => Option.bind (geti x501 0) fun x508 => Option.bind (m_spec_l00In x508 0 (wr ((wr (p0 + x400)) - 1))) fun y510 => (bif !y510 then some (Ctl.out (Sum.inr false)) else Option.bind (geti l1 x400) fun x516 => Option.bind (geti x516 1) fun x524 => Option.bind (geti l1 x400) fun x526 => Option.bind (geti x526 0) fun x534 => Option.bind (m_spec_l00In x524 (wr (x534 + 1)) (wr ((wr (p0 + x400)) - 1))) fun y536 => (bif !y536 then some (Ctl.out (Sum.inr false)) else Option.bind (geti l1 x400) fun x542 => Option.bind (geti x542 0) fun x550 => Option.bind (geti l401 x550) fun x552 => (bif x552 then some (Ctl.out (Sum.inr false)) else Option.bind (geti l1 x400) fun x556 => Option.bind (geti x556 1) fun x564 => Option.bind (geti l401 x564) fun x566 => (bif x566 then some (Ctl.out (Sum.inr false)) else Option.bind (geti l1 x400) fun x570 => Option.bind (geti x570 0) fun x577 => Option.bind (geti l401 x577) fun x579 => Option.bind (geti l1 x400) fun x584 => Option.bind (geti x584 1) fun x591 => Option.bind (geti (l401.set (Int.toNat x577) true) x591) fun x593 => some (Ctl.next ((wr (x400 + 1), (l401.set (Int.toNat x577) true).set (Int.toNat x591) true)))))))) else some (Ctl.out (Sum.inl (()))))
noncomputable def m_spec_l06Joins (p0 : Int) (l1 : List (List (Int))) : Option ((Bool)) :=
  Option.bind (m_spec_l00In p0 2 12) fun y2 => (bif !y2 then some false else (bif (((l1).length : Int)) != (wr (p0 - 1)) then some false else Option.bind (mkC (wr ((wr (2 * p0)) - 1))) fun _ => Option.bind (loopM (m_spec_l06Joins_s1 p0 l1) ((0, List.replicate (Int.toNat (wr ((wr (2 * p0)) - 1))) ((false : Bool))))) fun (r405 : Sum (Unit) ((Bool))) => match r405 with | Sum.inl q600 => (some true) | Sum.inr v599 => some v599))

noncomputable def m_spec_IsJoins (p0 : Int) (l1 : List (List (Int))) : Option ((Bool)) :=
  Option.bind (m_spec_l06Joins p0 l1) fun y2 => some y2

def m_laws_toInt64S_s1 (l0 : List (Int)) (s46 : Int × (List (Int))) : Option (Ctl (Int × (List (Int))) ((List (Int)))) :=
  match s46 with | (x38, l39) => (bif decide (x38 < (((l0).length : Int))) then Option.bind (geti l0 x38) fun x50 => Option.bind (geti l39 x38) fun x52 => some (Ctl.next ((wr (x38 + 1), l39.set (Int.toNat x38) x50))) else some (Ctl.out l39))
noncomputable def m_laws_toInt64S (l0 : List (Int)) : Option ((List (Int))) :=
  Option.bind (mkC (((l0).length : Int))) fun _ => Option.bind (loopM (m_laws_toInt64S_s1 l0) ((0, List.replicate (Int.toNat (((l0).length : Int))) ((0 : Int))))) fun (r43 : (List (Int))) => (fun (l34 : List (Int)) => some l34) r43

noncomputable def m_laws_toInt64SS_s1 (l0 : List (List (Int))) (s110 : (List (List (Int))) × Int) : Option (Ctl ((List (List (Int))) × Int) ((List (List (Int))))) :=
  match s110 with | (l96, x102) => (bif decide (x102 < (((l0).length : Int))) then Option.bind (geti l0 x102) fun x114 => Option.bind (m_laws_toInt64S x114) fun y121 => Option.bind (geti l96 x102) fun x133 => some (Ctl.next ((l96.set (Int.toNat x102) y121, wr (x102 + 1)))) else some (Ctl.out l96))
noncomputable def m_laws_toInt64SS (l0 : List (List (Int))) : Option ((List (List (Int)))) :=
  Option.bind (mkC (((l0).length : Int))) fun _ => Option.bind (loopM (m_laws_toInt64SS_s1 l0) ((List.replicate (Int.toNat (((l0).length : Int))) ([] : List (Int)), 0))) fun (r107 : (List (List (Int)))) => (fun (l86 : List (List (Int))) => some l86) r107

def m_impl_IsJoins_s1 (p0 : Int) (l1 : List (List (Int))) (s275 : Int × (List (Int × Bool))) : Option (Ctl (Int × (List (Int × Bool))) (Sum (Unit) ((Bool)))) :=
  match s275 with | (x267, l268) => (bif decide (x267 < (((l1).length : Int))) then Option.bind (geti l1 x267) fun x279 => (bif (((x279).length : Int)) != 2 then some (Ctl.out (Sum.inr false)) else Option.bind (geti x279 0) fun x319 => (bif decide (x319 < 0) then some (Ctl.out (Sum.inr false)) else Option.bind (geti x279 0) fun x323 => Option.bind (geti x279 1) fun x325 => (bif decide (x323 ≥ x325) then some (Ctl.out (Sum.inr false)) else Option.bind (geti x279 1) fun x329 => (bif decide (x329 ≥ (wr (p0 + x267))) then some (Ctl.out (Sum.inr false)) else Option.bind (geti x279 0) fun x333 => Option.bind (mgC (okI x333) false l268 x333) fun y335 => (bif y335 then some (Ctl.out (Sum.inr false)) else Option.bind (geti x279 1) fun x339 => Option.bind (mgC (okI x339) false l268 x339) fun y341 => (bif y341 then some (Ctl.out (Sum.inr false)) else Option.bind (geti x279 0) fun x377 => Option.bind (geti x279 1) fun x379 => Option.bind (mpC (okI x377)) fun _ => Option.bind (mpC (okI x379)) fun _ => some (Ctl.next ((wr (x267 + 1), mset (ment false (mset (ment false l268 x377) x377 true) x379) x379 true))))))))) else some (Ctl.out (Sum.inl (()))))
noncomputable def m_impl_IsJoins (p0 : Int) (l1 : List (List (Int))) : Option ((Bool)) :=
  Option.bind (m_impl_in p0 2 12) fun y2 => (bif !y2 then some false else (bif (((l1).length : Int)) != (wr (p0 - 1)) then some false else Option.bind (loopM (m_impl_IsJoins_s1 p0 l1) ((0, ([] : List (Int × Bool))))) fun (r272 : Sum (Unit) ((Bool))) => match r272 with | Sum.inl q401 => (some true) | Sum.inr v400 => some v400))

def m_laws_eqInt64S_s1 (l0 : List (Int)) (l1 : List (Int)) (s57 : Int) : Option (Ctl (Int) (Sum (Unit) ((Bool)))) :=
  (fun (x50 : Int) => (bif decide (x50 < (((l0).length : Int))) then Option.bind (geti l0 x50) fun x73 => Option.bind (geti l1 x50) fun x75 => (bif x73 != x75 then some (Ctl.out (Sum.inr false)) else some (Ctl.next (wr (x50 + 1)))) else some (Ctl.out (Sum.inl (()))))) s57
noncomputable def m_laws_eqInt64S (l0 : List (Int)) (l1 : List (Int)) : Option ((Bool)) :=
  (bif (((l0).length : Int)) != (((l1).length : Int)) then some false else Option.bind (loopM (m_laws_eqInt64S_s1 l0 l1) 0) fun (r54 : Sum (Unit) ((Bool))) => match r54 with | Sum.inl q80 => (some true) | Sum.inr v79 => some v79)

noncomputable def m_laws_eqInt64SS_s1 (l0 : List (List (Int))) (l1 : List (List (Int))) (s113 : Int) : Option (Ctl (Int) (Sum (Unit) ((Bool)))) :=
  (fun (x106 : Int) => (bif decide (x106 < (((l0).length : Int))) then Option.bind (geti l0 x106) fun x143 => Option.bind (geti l1 x106) fun x150 => Option.bind (m_laws_eqInt64S x143 x150) fun y157 => (bif !y157 then some (Ctl.out (Sum.inr false)) else some (Ctl.next (wr (x106 + 1)))) else some (Ctl.out (Sum.inl (()))))) s113
noncomputable def m_laws_eqInt64SS (l0 : List (List (Int))) (l1 : List (List (Int))) : Option ((Bool)) :=
  (bif (((l0).length : Int)) != (((l1).length : Int)) then some false else Option.bind (loopM (m_laws_eqInt64SS_s1 l0 l1) 0) fun (r110 : Sum (Unit) ((Bool))) => match r110 with | Sum.inl q164 => (some true) | Sum.inr v163 => some v163)

noncomputable def m_laws_FnExactIsJoins (p0 : Int) (l1 : List (List (Int))) : Option ((Bool)) :=
  Option.bind (m_laws_szInt64SS l1 1048576) fun y2 => (bif decide (y2 < 0) then some true else Option.bind (m_laws_toInt64SS l1) fun y7 => Option.bind (m_spec_IsJoins p0 y7) fun y18 => Option.bind (m_laws_toInt64SS l1) fun y22 => Option.bind (m_impl_IsJoins p0 y22) fun y34 => (bif !(y34 == y18) then some false else Option.bind (m_laws_toInt64SS l1) fun y40 => Option.bind (m_laws_eqInt64SS y22 y40) fun y53 => (bif !y53 then some false else some true)))

def m_laws_r8Long (l0 : List (Int)) (l1 : List (Int)) : Option ((Bool)) :=
  (bif decide ((((l0).length : Int)) > 48) then some true else some (decide ((((l1).length : Int)) > 48)))

def m_impl_mergeOk (p0_0 : Int) (p0_1 : Int) (p0_2 : Int) (p0_3 : Int) (p0_4 : Int) : Option ((Bool)) :=
  Option.bind (m_impl_ValidRegion p0_0 p0_1 p0_2 p0_3) fun y7 => (bif y7 then Option.bind (m_impl_in p0_4 0 1000000000) fun y12 => some y12 else some false)

def m_impl_merge (p0_0 : Int) (p0_1 : Int) (p0_2 : Int) (p0_3 : Int) (p0_4 : Int) (p1_0 : Int) (p1_1 : Int) (p1_2 : Int) (p1_3 : Int) (p1_4 : Int) : Option ((Int × Int × Int × Int × Int) × (Int) × (Int) × (Bool)) :=
  Option.bind (m_impl_Region_far p0_0 p0_1 p0_2 p0_3 p1_0 p1_1 p1_2 p1_3) fun y22 => Option.bind (m_impl_size (wr (p0_4 - p1_4))) fun y37 => (bif decide (y37 ≤ y22) then (bif (Int.tmod (wr ((wr (y22 + p1_4)) - p0_4)) 2) != 0 then some (((0, 0, 0, 0, 0), 0, 0, false)) else Option.bind (Option.bind (m_impl_Region_grown p0_0 p0_1 p0_2 p0_3 (wr (Int.tdiv (wr ((wr (y22 + p1_4)) - p0_4)) 2))) fun y255 => Option.bind (m_impl_Region_grown p1_0 p1_1 p1_2 p1_3 (wr (y22 - (wr (Int.tdiv (wr ((wr (y22 + p1_4)) - p0_4)) 2))))) fun y259 => Option.bind (m_impl_Region_meet y255.1 y255.2.1 y255.2.2.1 y255.2.2.2 y259.1 y259.2.1 y259.2.2.1 y259.2.2.2) fun y263 => some ((y263.1.1, y263.1.2.1, y263.1.2.2.1, y263.1.2.2.2, y263.2))) fun (s248 : Int × Int × Int × Int × Bool) => match s248 with | (x235, x236, x237, x238, x240) => (bif !x240 then some (((0, 0, 0, 0, 0), 0, 0, false)) else Option.bind (m_impl_mergeOk x235 x236 x237 x238 (wr (p0_4 + (wr (Int.tdiv (wr ((wr (y22 + p1_4)) - p0_4)) 2))))) fun y360 => (bif !y360 then some (((0, 0, 0, 0, 0), 0, 0, false)) else some (((x235, x236, x237, x238, wr (p0_4 + (wr (Int.tdiv (wr ((wr (y22 + p1_4)) - p0_4)) 2)))), wr (Int.tdiv (wr ((wr (y22 + p1_4)) - p0_4)) 2), wr (y22 - (wr (Int.tdiv (wr ((wr (y22 + p1_4)) - p0_4)) 2))), true))))) else Option.bind (Option.bind (m_impl_Region_grown p0_0 p0_1 p0_2 p0_3 (if 0 > (wr (p1_4 - p0_4)) then 0 else (wr (p1_4 - p0_4)))) fun y581 => Option.bind (m_impl_Region_grown p1_0 p1_1 p1_2 p1_3 (if 0 > (wr (p0_4 - p1_4)) then 0 else (wr (p0_4 - p1_4)))) fun y585 => Option.bind (m_impl_Region_meet y581.1 y581.2.1 y581.2.2.1 y581.2.2.2 y585.1 y585.2.1 y585.2.2.1 y585.2.2.2) fun y589 => some ((y589.1.1, y589.1.2.1, y589.1.2.2.1, y589.1.2.2.2, y589.2))) fun (s574 : Int × Int × Int × Int × Bool) => match s574 with | (x561, x562, x563, x564, x566) => (bif !x566 then some (((0, 0, 0, 0, 0), 0, 0, false)) else Option.bind (m_impl_mergeOk x561 x562 x563 x564 (wr (p0_4 + (if 0 > (wr (p1_4 - p0_4)) then 0 else (wr (p1_4 - p0_4)))))) fun y686 => (bif !y686 then some (((0, 0, 0, 0, 0), 0, 0, false)) else some (((x561, x562, x563, x564, wr (p0_4 + (if 0 > (wr (p1_4 - p0_4)) then 0 else (wr (p1_4 - p0_4))))), if 0 > (wr (p1_4 - p0_4)) then 0 else (wr (p1_4 - p0_4)), if 0 > (wr (p0_4 - p1_4)) then 0 else (wr (p0_4 - p1_4)), true)))))

def m_impl_MergePair (p0_0 : Int) (p0_1 : Int) (p0_2 : Int) (p0_3 : Int) (p0_4 : Int) (p1_0 : Int) (p1_1 : Int) (p1_2 : Int) (p1_3 : Int) (p1_4 : Int) : Option ((Int × Int × Int × Int × Int) × (Int) × (Int) × (Bool)) :=
  Option.bind (m_impl_mergeOk p0_0 p0_1 p0_2 p0_3 p0_4) fun y22 => (bif !y22 then some (((0, 0, 0, 0, 0), 0, 0, false)) else Option.bind (m_impl_mergeOk p1_0 p1_1 p1_2 p1_3 p1_4) fun y30 => (bif !y30 then some (((0, 0, 0, 0, 0), 0, 0, false)) else Option.bind (m_impl_merge p0_0 p0_1 p0_2 p0_3 p0_4 p1_0 p1_1 p1_2 p1_3 p1_4) fun y38 => some (((y38.1.1, y38.1.2.1, y38.1.2.2.1, y38.1.2.2.2.1, y38.1.2.2.2.2), y38.2.1, y38.2.2.1, y38.2.2.2))))

def m_laws_szPointS (l0 : List (Int × Int)) (p1 : Int) : Option ((Int)) :=
  (bif decide ((wr (p1 - (((l0).length : Int)))) < 0) then some ((-1)) else some (wr (p1 - (((l0).length : Int)))))

noncomputable def m_spec_l01Points_s1 (l0 : List (Int × Int)) (s33 : Int) : Option (Ctl (Int) (Sum (Unit) ((Bool)))) :=
  (fun (x27 : Int) => (bif decide (x27 < (((l0).length : Int))) then Option.bind (geti l0 x27) fun x37 => Option.bind (m_spec_l01Point x37.1 x37.2) fun y39 => (bif !y39 then some (Ctl.out (Sum.inr false)) else some (Ctl.next (wr (x27 + 1)))) else some (Ctl.out (Sum.inl (()))))) s33
noncomputable def m_spec_l01Points (l0 : List (Int × Int)) : Option ((Bool)) :=
  Option.bind (loopM (m_spec_l01Points_s1 l0) 0) fun (r30 : Sum (Unit) ((Bool))) => match r30 with | Sum.inl q46 => (some (decide ((((l0).length : Int)) ≤ 24))) | Sum.inr v45 => some v45

noncomputable def m_spec_NearestPoint_s1 (l0 : List (Int × Int)) (p1_0 : Int) (p1_1 : Int) (s187 : Int × Int) : Option (Ctl (Int × Int) (Int)) :=
  match s187 with | (x179, x180) => (bif decide (x180 < (((l0).length : Int))) then Option.bind (Option.bind (geti l0 x180) fun x251 => Option.bind (geti l0 x179) fun x253 => Option.bind (m_spec_l01Far x251.1 x251.2 p1_0 p1_1) fun y255 => Option.bind (m_spec_l01Far x253.1 x253.2 p1_0 p1_1) fun y259 => (bif decide (y255 < y259) then some x180 else some x179)) fun (s229 : Int) => (fun (x225 : Int) => some (Ctl.next ((x225, wr (x180 + 1))))) s229 else some (Ctl.out x179))
noncomputable def m_spec_NearestPoint (l0 : List (Int × Int)) (p1_0 : Int) (p1_1 : Int) : Option ((Int) × (Bool)) :=
  Option.bind (m_spec_l01Points l0) fun y8 => (bif !y8 then some ((0, false)) else (bif (((l0).length : Int)) == 0 then some ((0, false)) else Option.bind (m_spec_l01Point p1_0 p1_1) fun y14 => (bif !y14 then some ((0, false)) else Option.bind (loopM (m_spec_NearestPoint_s1 l0 p1_0 p1_1) ((0, 1))) fun (r184 : Int) => (fun (x176 : Int) => some ((x176, true))) r184)))

def m_laws_toPointS_s1 (l0 : List (Int × Int)) (s54 : Int × (List (Int × Int))) : Option (Ctl (Int × (List (Int × Int))) ((List (Int × Int)))) :=
  match s54 with | (x46, l47) => (bif decide (x46 < (((l0).length : Int))) then Option.bind (geti l0 x46) fun x58 => Option.bind (m_laws_toPoint x58.1 x58.2) fun y60 => Option.bind (geti l47 x46) fun x64 => some (Ctl.next ((wr (x46 + 1), l47.set (Int.toNat x46) ((y60.1, y60.2))))) else some (Ctl.out l47))
noncomputable def m_laws_toPointS (l0 : List (Int × Int)) : Option ((List (Int × Int))) :=
  Option.bind (mkC (((l0).length : Int))) fun _ => Option.bind (loopM (m_laws_toPointS_s1 l0) ((0, List.replicate (Int.toNat (((l0).length : Int))) (((0, 0) : Int × Int))))) fun (r51 : (List (Int × Int))) => (fun (l42 : List (Int × Int)) => some l42) r51

def m_impl_noPoint (p0_0 : Int) (p0_1 : Int) : Option ((Bool)) :=
  Option.bind (m_impl_IsPoint p0_0 p0_1) fun y7 => some (!y7)

def m_slices_IndexFunc_impl_Point_impl_Point_impl_noPoint_s1 (l0 : List (Int × Int)) (s32 : Int) : Option (Ctl (Int) (Sum (Unit) ((Int)))) :=
  (fun (x26 : Int) => (bif decide (x26 < (((l0).length : Int))) then Option.bind (geti l0 x26) fun x36 => Option.bind (m_impl_noPoint x36.1 x36.2) fun y38 => (bif y38 then some (Ctl.out (Sum.inr x26)) else some (Ctl.next (wr (x26 + 1)))) else some (Ctl.out (Sum.inl (()))))) s32
noncomputable def m_slices_IndexFunc_impl_Point_impl_Point_impl_noPoint (l0 : List (Int × Int)) : Option ((Int)) :=
  Option.bind (loopM (m_slices_IndexFunc_impl_Point_impl_Point_impl_noPoint_s1 l0) 0) fun (r29 : Sum (Unit) ((Int))) => match r29 with | Sum.inl q45 => (some ((-1))) | Sum.inr v44 => some v44

noncomputable def m_slices_ContainsFunc_impl_Point_impl_Point_impl_noPoint (l0 : List (Int × Int)) : Option ((Bool)) :=
  Option.bind (m_slices_IndexFunc_impl_Point_impl_Point_impl_noPoint l0) fun y2 => some (decide (y2 ≥ 0))

noncomputable def m_impl_ArePoints (l0 : List (Int × Int)) : Option ((Bool)) :=
  (bif decide ((((l0).length : Int)) ≤ 24) then Option.bind (m_slices_ContainsFunc_impl_Point_impl_Point_impl_noPoint l0) fun y3 => some (!y3) else some false)

noncomputable def m_impl_NearestPoint_s1 (l0 : List (Int × Int)) (p1_0 : Int) (p1_1 : Int) (s324 : Int × Int) : Option (Ctl (Int × Int) (Int)) :=
  match s324 with | (x316, x317) => (bif decide (x316 < (((l0).length : Int))) then Option.bind (Option.bind (geti l0 x316) fun x378 => Option.bind (geti l0 x317) fun x410 => Option.bind (m_impl_far p1_0 p1_1 x378.1 x378.2) fun y412 => Option.bind (m_impl_far p1_0 p1_1 x410.1 x410.2) fun y416 => (bif decide (y412 < y416) then some x316 else some x317)) fun (s376 : Int) => (fun (x372 : Int) => some (Ctl.next ((wr (x316 + 1), x372)))) s376 else some (Ctl.out x317))
noncomputable def m_impl_NearestPoint (l0 : List (Int × Int)) (p1_0 : Int) (p1_1 : Int) : Option ((Int) × (Bool)) :=
  Option.bind (m_impl_ArePoints l0) fun y8 => (bif !y8 then some ((0, false)) else (bif (((l0).length : Int)) == 0 then some ((0, false)) else Option.bind (m_impl_IsPoint p1_0 p1_1) fun y14 => (bif !y14 then some ((0, false)) else Option.bind (loopM (m_impl_NearestPoint_s1 l0 p1_0 p1_1) ((0, 0))) fun (r321 : Int) => (fun (x313 : Int) => some ((x313, true))) r321)))

def m_laws_eqPoint (p0_0 : Int) (p0_1 : Int) (p1_0 : Int) (p1_1 : Int) : Option ((Bool)) :=
  (bif p0_0 != p1_0 then some false else (bif p0_1 != p1_1 then some false else some true))

def m_laws_eqPointS_s1 (l0 : List (Int × Int)) (l1 : List (Int × Int)) (s73 : Int) : Option (Ctl (Int) (Sum (Unit) ((Bool)))) :=
  (fun (x66 : Int) => (bif decide (x66 < (((l0).length : Int))) then Option.bind (geti l0 x66) fun x93 => Option.bind (geti l1 x66) fun x95 => Option.bind (m_laws_eqPoint x93.1 x93.2 x95.1 x95.2) fun y97 => (bif !y97 then some (Ctl.out (Sum.inr false)) else some (Ctl.next (wr (x66 + 1)))) else some (Ctl.out (Sum.inl (()))))) s73
noncomputable def m_laws_eqPointS (l0 : List (Int × Int)) (l1 : List (Int × Int)) : Option ((Bool)) :=
  (bif (((l0).length : Int)) != (((l1).length : Int)) then some false else Option.bind (loopM (m_laws_eqPointS_s1 l0 l1) 0) fun (r70 : Sum (Unit) ((Bool))) => match r70 with | Sum.inl q104 => (some true) | Sum.inr v103 => some v103)

noncomputable def m_laws_FnExactNearestPoint (l0 : List (Int × Int)) (p1_0 : Int) (p1_1 : Int) : Option ((Bool)) :=
  Option.bind (m_laws_szPointS l0 1048576) fun y8 => (bif decide (y8 < 0) then some true else Option.bind (m_laws_toPointS l0) fun y41 => Option.bind (m_laws_toPoint p1_0 p1_1) fun y53 => Option.bind (m_spec_NearestPoint y41 y53.1 y53.2) fun y57 => Option.bind (m_laws_toPointS l0) fun y61 => Option.bind (m_laws_toPoint p1_0 p1_1) fun y74 => Option.bind (m_impl_NearestPoint y61 y74.1 y74.2) fun y78 => (bif y78.1 != y57.1 then some false else (bif !(y78.2 == y57.2) then some false else Option.bind (m_laws_toPointS l0) fun y85 => Option.bind (m_laws_eqPointS y61 y85) fun y99 => (bif !y99 then some false else some true))))

def m_spec_l06Valid (p0_0 : Int) (p0_1 : Int) (p0_2 : Int) (p0_3 : Int) (p0_4 : Int) : Option ((Bool)) :=
  Option.bind (m_spec_l06Is p0_0 p0_1 p0_2 p0_3) fun y7 => (bif y7 then Option.bind (m_spec_l00In p0_4 0 1000000000) fun y12 => some y12 else some false)

def m_spec_l06Pair (p0_0 : Int) (p0_1 : Int) (p0_2 : Int) (p0_3 : Int) (p0_4 : Int) (p1_0 : Int) (p1_1 : Int) (p1_2 : Int) (p1_3 : Int) (p1_4 : Int) : Option ((Int × Int × Int × Int × Int) × (Int) × (Int)) :=
  Option.bind (m_spec_l06Far p0_0 p0_1 p0_2 p0_3 p1_0 p1_1 p1_2 p1_3) fun y22 => Option.bind ((bif decide ((wr (p1_4 - p0_4)) > y22) then some ((wr (p1_4 - p0_4), 0)) else (bif decide ((wr (p1_4 - p0_4)) < (wr (0 - y22))) then some ((0, wr (0 - (wr (p1_4 - p0_4))))) else some ((wr (Int.tdiv (wr (y22 + (wr (p1_4 - p0_4)))) 2), wr (y22 - (wr (Int.tdiv (wr (y22 + (wr (p1_4 - p0_4)))) 2)))))))) fun (s36 : Int × Int) => match s36 with | (x30, x31) => Option.bind (Option.bind (m_spec_l06Grow p0_0 p0_1 p0_2 p0_3 x30) fun y248 => Option.bind (m_spec_l06Grow p1_0 p1_1 p1_2 p1_3 x31) fun y252 => Option.bind (m_spec_l06Meet y248.1 y248.2.1 y248.2.2.1 y248.2.2.2 y252.1 y252.2.1 y252.2.2.1 y252.2.2.2) fun y256 => some ((y256.1, y256.2.1, y256.2.2.1, y256.2.2.2))) fun (s241 : Int × Int × Int × Int) => match s241 with | (x229, x230, x231, x232) => some (((x229, x230, x231, x232, wr (p0_4 + x30)), x30, x31))

def m_spec_MergePair (p0_0 : Int) (p0_1 : Int) (p0_2 : Int) (p0_3 : Int) (p0_4 : Int) (p1_0 : Int) (p1_1 : Int) (p1_2 : Int) (p1_3 : Int) (p1_4 : Int) : Option ((Int × Int × Int × Int × Int) × (Int) × (Int) × (Bool)) :=
  Option.bind (m_spec_l06Valid p0_0 p0_1 p0_2 p0_3 p0_4) fun y22 => (bif !y22 then some (((0, 0, 0, 0, 0), 0, 0, false)) else Option.bind (m_spec_l06Valid p1_0 p1_1 p1_2 p1_3 p1_4) fun y30 => (bif !y30 then some (((0, 0, 0, 0, 0), 0, 0, false)) else Option.bind (m_spec_l06Pair p0_0 p0_1 p0_2 p0_3 p0_4 p1_0 p1_1 p1_2 p1_3 p1_4) fun y38 => Option.bind (m_spec_l06Valid y38.1.1 y38.1.2.1 y38.1.2.2.1 y38.1.2.2.2.1 y38.1.2.2.2.2) fun y55 => (bif !y55 then some (((0, 0, 0, 0, 0), 0, 0, false)) else (bif (wr (p0_4 + y38.2.1)) != (wr (p1_4 + y38.2.2)) then some (((0, 0, 0, 0, 0), 0, 0, false)) else some (((y38.1.1, y38.1.2.1, y38.1.2.2.1, y38.1.2.2.2.1, y38.1.2.2.2.2), y38.2.1, y38.2.2, true))))))

def m_laws_toMerge (p0_0 : Int) (p0_1 : Int) (p0_2 : Int) (p0_3 : Int) (p0_4 : Int) : Option ((Int × Int × Int × Int × Int)) :=
  Option.bind (m_laws_toRegion p0_0 p0_1 p0_2 p0_3) fun y22 => some ((y22.1, y22.2.1, y22.2.2.1, y22.2.2.2, p0_4))

def m_laws_eqMerge (p0_0 : Int) (p0_1 : Int) (p0_2 : Int) (p0_3 : Int) (p0_4 : Int) (p1_0 : Int) (p1_1 : Int) (p1_2 : Int) (p1_3 : Int) (p1_4 : Int) : Option ((Bool)) :=
  Option.bind (m_laws_eqRegion p0_0 p0_1 p0_2 p0_3 p1_0 p1_1 p1_2 p1_3) fun y14 => (bif !y14 then some false else (bif p0_4 != p1_4 then some false else some true))

def m_laws_FnExactMergePair (p0_0 : Int) (p0_1 : Int) (p0_2 : Int) (p0_3 : Int) (p0_4 : Int) (p1_0 : Int) (p1_1 : Int) (p1_2 : Int) (p1_3 : Int) (p1_4 : Int) : Option ((Bool)) :=
  Option.bind (Option.bind (m_laws_toMerge p0_0 p0_1 p0_2 p0_3 p0_4) fun y214 => Option.bind (m_laws_toMerge p1_0 p1_1 p1_2 p1_3 p1_4) fun y218 => Option.bind (m_spec_MergePair y214.1 y214.2.1 y214.2.2.1 y214.2.2.2.1 y214.2.2.2.2 y218.1 y218.2.1 y218.2.2.1 y218.2.2.2.1 y218.2.2.2.2) fun y222 => some ((y222.1.1, y222.1.2.1, y222.1.2.2.1, y222.1.2.2.2.1, y222.1.2.2.2.2, y222.2.1, y222.2.2.1, y222.2.2.2))) fun (s208 : Int × Int × Int × Int × Int × Int × Int × Bool) => match s208 with | (x192, x193, x194, x195, x196, x198, x199, x200) => Option.bind (Option.bind (m_laws_toMerge p0_0 p0_1 p0_2 p0_3 p0_4) fun y507 => Option.bind (m_laws_toMerge p1_0 p1_1 p1_2 p1_3 p1_4) fun y511 => Option.bind (m_impl_MergePair y507.1 y507.2.1 y507.2.2.1 y507.2.2.2.1 y507.2.2.2.2 y511.1 y511.2.1 y511.2.2.1 y511.2.2.2.1 y511.2.2.2.2) fun y515 => some ((y515.1.1, y515.1.2.1, y515.1.2.2.1, y515.1.2.2.2.1, y515.1.2.2.2.2, y515.2.1, y515.2.2.1, y515.2.2.2))) fun (s500 : Int × Int × Int × Int × Int × Int × Int × Bool) => match s500 with | (x486, x487, x488, x489, x490, x492, x493, x494) => Option.bind (m_laws_eqMerge x486 x487 x488 x489 x490 x192 x193 x194 x195 x196) fun y595 => (bif !y595 then some false else (bif x492 != x198 then some false else (bif x493 != x199 then some false else (bif !(x494 == x200) then some false else some true))))

noncomputable def m_spec_SkewOf_s3 (p0 : Int) (l344 : List (Int)) (s546 : Int × Int × Int) : Option (Ctl (Int × Int × Int) (Int × Int)) :=
  match s546 with | (x538, x539, x540) => (bif decide (x540 < p0) then Option.bind (geti l344 x540) fun x550 => Option.bind (m_spec_l00Min x538 x550) fun y552 => Option.bind (geti l344 x540) fun x556 => Option.bind (m_spec_l00Max x539 x556) fun y558 => some (Ctl.next ((y552, y558, wr (x540 + 1)))) else some (Ctl.out ((x538, x539))))
noncomputable def m_spec_SkewOf_s2 (p0 : Int) (l1 : List (List (Int))) (l2 : List (Int)) (s357 : Int × (List (Int))) : Option (Ctl (Int × (List (Int))) ((List (Int)))) :=
  match s357 with | (x348, l349) => (bif decide (x348 ≥ 0) then Option.bind (geti l1 x348) fun x398 => Option.bind (geti x398 0) fun x405 => Option.bind (geti l349 (wr (p0 + x348))) fun x407 => Option.bind (geti l1 x348) fun x409 => Option.bind (geti x409 0) fun x416 => Option.bind (geti l2 x416) fun x418 => Option.bind (geti l349 x405) fun x420 => Option.bind (geti l1 x348) fun x467 => Option.bind (geti x467 1) fun x474 => Option.bind (geti (l349.set (Int.toNat x405) (wr (x407 + x418))) (wr (p0 + x348))) fun x476 => Option.bind (geti l1 x348) fun x478 => Option.bind (geti x478 1) fun x485 => Option.bind (geti l2 x485) fun x487 => Option.bind (geti (l349.set (Int.toNat x405) (wr (x407 + x418))) x474) fun x489 => some (Ctl.next ((wr (x348 - 1), (l349.set (Int.toNat x405) (wr (x407 + x418))).set (Int.toNat x474) (wr (x476 + x487))))) else some (Ctl.out l349))
noncomputable def m_spec_SkewOf_s1 (l2 : List (Int)) (s44 : Int) : Option (Ctl (Int) (Sum (Unit) ((Int) × (Bool)))) :=
  (fun (x37 : Int) => (bif decide (x37 < (((l2).length : Int))) then Option.bind (geti l2 x37) fun x48 => Option.bind (m_spec_l00In x48 0 1000000000) fun y50 => (bif !y50 then some (Ctl.out (Sum.inr ((0, false)))) else some (Ctl.next (wr (x37 + 1)))) else some (Ctl.out (Sum.inl (()))))) s44
noncomputable def m_spec_SkewOf (p0 : Int) (l1 : List (List (Int))) (l2 : List (Int)) : Option ((Int) × (Bool)) :=
  Option.bind (m_spec_l06Joins p0 l1) fun y3 => (bif !y3 then some ((0, false)) else (bif (((l2).length : Int)) != (wr ((wr (2 * p0)) - 1)) then some ((0, false)) else Option.bind (loopM (m_spec_SkewOf_s1 l2) 0) fun (r41 : Sum (Unit) ((Int) × (Bool))) => match r41 with | Sum.inl q564 => (Option.bind (mkC (((l2).length : Int))) fun _ => Option.bind (loopM (m_spec_SkewOf_s2 p0 l1 l2) ((wr (p0 - 2), List.replicate (Int.toNat (((l2).length : Int))) ((0 : Int))))) fun (r354 : (List (Int))) => (fun (l344 : List (Int)) => Option.bind (geti l344 0) fun x496 => Option.bind (geti l344 0) fun x498 => Option.bind (loopM (m_spec_SkewOf_s3 p0 l344) ((x496, x498, 1))) fun (r543 : Int × Int) => match r543 with | (x534, x535) => some ((wr (x535 - x534), true))) r354) | Sum.inr v563 => some v563))

def m_impl_SkewOf_1 (p0 : Int) : Option ((Bool)) :=
  Option.bind (m_impl_in p0 0 1000000000) fun y1 => some (!y1)

def m_slices_Max_int64_int64_s1 (l0 : List (Int)) (s34 : Int × Int) : Option (Ctl (Int × Int) (Int)) :=
  match s34 with | (x27, x28) => (bif decide (x28 < (((l0).length : Int))) then Option.bind (geti l0 x28) fun x38 => some (Ctl.next ((if x38 > x27 then x38 else x27, wr (x28 + 1)))) else some (Ctl.out x27))
noncomputable def m_slices_Max_int64_int64 (l0 : List (Int)) : Option ((Int)) :=
  Option.bind ((bif decide ((((l0).length : Int)) < 1) then none else some (()))) fun (s6 : Unit) => Option.bind (geti l0 0) fun x9 => Option.bind (loopM (m_slices_Max_int64_int64_s1 l0) ((x9, 1))) fun (r31 : Int) => (fun (x24 : Int) => some x24) r31

def m_slices_Min_int64_int64_s1 (l0 : List (Int)) (s34 : Int × Int) : Option (Ctl (Int × Int) (Int)) :=
  match s34 with | (x27, x28) => (bif decide (x28 < (((l0).length : Int))) then Option.bind (geti l0 x28) fun x38 => some (Ctl.next ((if x38 < x27 then x38 else x27, wr (x28 + 1)))) else some (Ctl.out x27))
noncomputable def m_slices_Min_int64_int64 (l0 : List (Int)) : Option ((Int)) :=
  Option.bind ((bif decide ((((l0).length : Int)) < 1) then none else some (()))) fun (s6 : Unit) => Option.bind (geti l0 0) fun x9 => Option.bind (loopM (m_slices_Min_int64_int64_s1 l0) ((x9, 1))) fun (r31 : Int) => (fun (x24 : Int) => some x24) r31

def m_slices_IndexFunc_int64_int64_impl_SkewOf_1_s1 (l0 : List (Int)) (s32 : Int) : Option (Ctl (Int) (Sum (Unit) ((Int)))) :=
  (fun (x26 : Int) => (bif decide (x26 < (((l0).length : Int))) then Option.bind (geti l0 x26) fun x36 => Option.bind (m_impl_SkewOf_1 x36) fun y38 => (bif y38 then some (Ctl.out (Sum.inr x26)) else some (Ctl.next (wr (x26 + 1)))) else some (Ctl.out (Sum.inl (()))))) s32
noncomputable def m_slices_IndexFunc_int64_int64_impl_SkewOf_1 (l0 : List (Int)) : Option ((Int)) :=
  Option.bind (loopM (m_slices_IndexFunc_int64_int64_impl_SkewOf_1_s1 l0) 0) fun (r29 : Sum (Unit) ((Int))) => match r29 with | Sum.inl q45 => (some ((-1))) | Sum.inr v44 => some v44

noncomputable def m_slices_ContainsFunc_int64_int64_impl_SkewOf_1 (l0 : List (Int)) : Option ((Bool)) :=
  Option.bind (m_slices_IndexFunc_int64_int64_impl_SkewOf_1 l0) fun y2 => some (decide (y2 ≥ 0))

noncomputable def m_impl_SkewOf_s4 (p0 : Int) (l2 : List (Int)) (x323 : Int) (x336 : List (Int)) (s440 : Int × (List (Int))) : Option (Ctl (Int × (List (Int))) ((List (Int)))) :=
  match s440 with | (x430, l431) => (bif decide (x430 < (((x336).length : Int))) then Option.bind (geti x336 x430) fun x444 => Option.bind (geti l431 (wr (p0 + x323))) fun x467 => Option.bind (geti l2 x444) fun x469 => Option.bind (geti l431 x444) fun x471 => some (Ctl.next ((wr (x430 + 1), l431.set (Int.toNat x444) (wr (x467 + x469))))) else some (Ctl.out l431))
noncomputable def m_impl_SkewOf_s3 (p0 : Int) (l1 : List (List (Int))) (l2 : List (Int)) (s332 : Int × (List (Int))) : Option (Ctl (Int × (List (Int))) ((List (Int)))) :=
  match s332 with | (x323, l324) => (bif decide (x323 ≥ 0) then Option.bind (geti l1 x323) fun x336 => Option.bind (loopM (m_impl_SkewOf_s4 p0 l2 x323 x336) ((0, l324))) fun (r437 : (List (Int))) => (fun (l424 : List (Int)) => some (Ctl.next ((wr (x323 - 1), l424)))) r437 else some (Ctl.out l324))
noncomputable def m_impl_SkewOf (p0 : Int) (l1 : List (List (Int))) (l2 : List (Int)) : Option ((Int) × (Bool)) :=
  Option.bind (m_impl_IsJoins p0 l1) fun y3 => (bif !y3 then some ((0, false)) else (bif (((l2).length : Int)) != (wr ((wr (2 * p0)) - 1)) then some ((0, false)) else Option.bind (m_slices_ContainsFunc_int64_int64_impl_SkewOf_1 l2) fun y9 => (bif y9 then some ((0, false)) else Option.bind (mkC (((l2).length : Int))) fun _ => Option.bind (loopM (m_impl_SkewOf_s3 p0 l1 l2) ((wr ((((l1).length : Int)) - 1), List.replicate (Int.toNat (((l2).length : Int))) ((0 : Int))))) fun (r329 : (List (Int))) => (fun (l319 : List (Int)) => Option.bind (slci l319 0 p0) fun y511 => Option.bind (slci l319 0 p0) fun y520 => Option.bind (m_slices_Max_int64_int64 y511) fun y529 => Option.bind (m_slices_Min_int64_int64 y520) fun y533 => some ((wr (y529 - y533), true))) r329)))

noncomputable def m_laws_FnExactSkewOf (p0 : Int) (l1 : List (List (Int))) (l2 : List (Int)) : Option ((Bool)) :=
  (bif decide ((((l2).length : Int)) > 1048576) then some true else Option.bind (m_laws_szInt64SS l1 1048576) fun y4 => (bif decide (y4 < 0) then some true else Option.bind (m_laws_toInt64SS l1) fun y9 => Option.bind (m_laws_toInt64S l2) fun y20 => Option.bind (m_spec_SkewOf p0 y9 y20) fun y32 => Option.bind (m_laws_toInt64SS l1) fun y37 => Option.bind (m_laws_toInt64S l2) fun y50 => Option.bind (m_impl_SkewOf p0 y37 y50) fun y64 => (bif y64.1 != y32.1 then some false else (bif !(y64.2 == y32.2) then some false else Option.bind (m_laws_toInt64SS l1) fun y72 => Option.bind (m_laws_eqInt64SS y37 y72) fun y87 => (bif !y87 then some false else Option.bind (m_laws_toInt64S l2) fun y92 => Option.bind (m_laws_eqInt64S y50 y92) fun y108 => (bif !y108 then some false else some true))))))

noncomputable def m_impl_clockPins (l0 : List (Int × Int)) : Option ((Bool)) :=
  Option.bind (m_impl_in (((l0).length : Int)) 2 12) fun y2 => (bif y2 then Option.bind (m_slices_ContainsFunc_impl_Point_impl_Point_impl_noPoint l0) fun y7 => some (!y7) else some false)

noncomputable def m_impl_tree_s2 (l1 : List (List (Int))) (s831 : (List (Int × Int × Int × Int × Int)) × Int × (List (Int))) : Option (Ctl ((List (Int × Int × Int × Int × Int)) × Int × (List (Int))) (Sum ((List (Int × Int × Int × Int × Int)) × (List (Int))) ((List (Int × Int × Int × Int × Int)) × (List (Int)) × (Bool)))) :=
  match s831 with | (l815, x820, l821) => (bif decide (x820 < (((l1).length : Int))) then Option.bind (geti l1 x820) fun x835 => Option.bind (Option.bind (geti x835 0) fun x962 => Option.bind (geti l815 x962) fun x964 => Option.bind (geti x835 1) fun x966 => Option.bind (geti l815 x966) fun x968 => Option.bind (m_impl_merge x964.1 x964.2.1 x964.2.2.1 x964.2.2.2.1 x964.2.2.2.2 x968.1 x968.2.1 x968.2.2.1 x968.2.2.2.1 x968.2.2.2.2) fun y970 => some ((y970.1.1, y970.1.2.1, y970.1.2.2.1, y970.1.2.2.2.1, y970.1.2.2.2.2, y970.2.1, y970.2.2.1, y970.2.2.2))) fun (s954 : Int × Int × Int × Int × Int × Int × Int × Bool) => match s954 with | (x936, x937, x938, x939, x940, x942, x943, x944) => (bif !x944 then some (Ctl.out (Sum.inr (([], [], false)))) else Option.bind (apC l815 (([(x936, x937, x938, x939, x940)] : List (Int × Int × Int × Int × Int)))) fun _ => Option.bind (geti x835 0) fun x1055 => Option.bind (geti x835 1) fun x1057 => Option.bind (geti l821 x1055) fun x1059 => Option.bind (geti (l821.set (Int.toNat x1055) x942) x1057) fun x1064 => some (Ctl.next ((l815 ++ (([(x936, x937, x938, x939, x940)] : List (Int × Int × Int × Int × Int))), wr (x820 + 1), (l821.set (Int.toNat x1055) x942).set (Int.toNat x1057) x943)))) else some (Ctl.out (Sum.inl ((l815, l821)))))
noncomputable def m_impl_tree_s1 (l0 : List (Int × Int)) (s269 : (List (Int × Int × Int × Int × Int)) × Int) : Option (Ctl ((List (Int × Int × Int × Int × Int)) × Int) ((List (Int × Int × Int × Int × Int)))) :=
  match s269 with | (l253, x258) => (bif decide (x258 < (((l0).length : Int))) then Option.bind (geti l0 x258) fun x273 => Option.bind (m_impl_leaf x273.1 x273.2) fun y286 => Option.bind (apC l253 (([(y286.1, y286.2.1, y286.2.2.1, y286.2.2.2, 0)] : List (Int × Int × Int × Int × Int)))) fun _ => some (Ctl.next ((l253 ++ (([(y286.1, y286.2.1, y286.2.2.1, y286.2.2.2, 0)] : List (Int × Int × Int × Int × Int))), wr (x258 + 1)))) else some (Ctl.out l253))
noncomputable def m_impl_tree (l0 : List (Int × Int)) (l1 : List (List (Int))) : Option ((List (Int × Int × Int × Int × Int)) × (List (Int)) × (Bool)) :=
  Option.bind (m_impl_clockPins l0) fun y3 => (bif !y3 then some (([], [], false)) else Option.bind (m_impl_IsJoins (((l0).length : Int)) l1) fun y8 => (bif !y8 then some (([], [], false)) else Option.bind (Option.bind (mkC (wr ((wr (2 * (((l0).length : Int)))) - 1))) fun _ => some ((([] : List (Int × Int × Int × Int × Int)), List.replicate (Int.toNat (wr ((wr (2 * (((l0).length : Int)))) - 1))) ((0 : Int))))) fun (s104 : (List (Int × Int × Int × Int × Int)) × (List (Int))) => match s104 with | (l86, l91) => Option.bind (loopM (m_impl_tree_s1 l0) ((l86, 0))) fun (r266 : (List (Int × Int × Int × Int × Int))) => (fun (l241 : List (Int × Int × Int × Int × Int)) => Option.bind (loopM (m_impl_tree_s2 l1) ((l241, 0, l91))) fun (r828 : Sum ((List (Int × Int × Int × Int × Int)) × (List (Int))) ((List (Int × Int × Int × Int × Int)) × (List (Int)) × (Bool))) => match r828 with | Sum.inl q1072 => (match q1072 with | (l803, l808) => some ((l803, l808, true))) | Sum.inr v1071 => some v1071) r266))

noncomputable def m_impl_ClockMerges (l0 : List (Int × Int)) (l1 : List (List (Int))) : Option ((List (Int × Int × Int × Int × Int)) × (Bool)) :=
  Option.bind (m_impl_tree l0 l1) fun y3 => some ((y3.1, y3.2.2))

noncomputable def m_impl_ClockWires (l0 : List (Int × Int)) (l1 : List (List (Int))) : Option ((List (Int)) × (Bool)) :=
  Option.bind (m_impl_tree l0 l1) fun y3 => some ((y3.2.1, y3.2.2))

def m_impl_nearest (p0 : Int) (p1 : Int) (p2 : Int) : Option ((Int)) :=
  some (if (if p2 < p0 then p2 else p0) > p1 then (if p2 < p0 then p2 else p0) else p1)

def m_impl_NearestJoins_1_bint_bint (p0 : Int) (q1_0 : Int) (q2_0 : Int) : Option ((Bool)) :=
  (bif p0 == q1_0 then some true else some (p0 == q2_0))

def m_laws_r8Sum_s1 (l0 : List (Int)) (s25 : Int × Int) : Option (Ctl (Int × Int) (Int)) :=
  match s25 with | (x18, x19) => (bif decide (x19 < (((l0).length : Int))) then Option.bind (geti l0 x19) fun x29 => some (Ctl.next ((wr (x18 + x29), wr (x19 + 1)))) else some (Ctl.out x18))
noncomputable def m_laws_r8Sum (l0 : List (Int)) : Option ((Int)) :=
  Option.bind (loopM (m_laws_r8Sum_s1 l0) ((0, 0))) fun (r22 : Int) => (fun (x15 : Int) => some x15) r22

noncomputable def m_spec_l06Pins (l0 : List (Int × Int)) : Option ((Bool)) :=
  Option.bind (m_spec_l00In (((l0).length : Int)) 2 12) fun y2 => (bif y2 then Option.bind (m_spec_l01Points l0) fun y7 => some y7 else some false)

noncomputable def m_spec_l06Tree_s2 (l1 : List (List (Int))) (s839 : (List (Int × Int × Int × Int × Int)) × (List (Int)) × Int) : Option (Ctl ((List (Int × Int × Int × Int × Int)) × (List (Int)) × Int) ((List (Int × Int × Int × Int × Int)) × (List (Int)))) :=
  match s839 with | (l818, l823, x828) => (bif decide (x828 < (((l1).length : Int))) then Option.bind (Option.bind (geti l1 x828) fun x986 => Option.bind (geti x986 0) fun x993 => Option.bind (geti l818 x993) fun x995 => Option.bind (geti l1 x828) fun x997 => Option.bind (geti x997 1) fun x1004 => Option.bind (geti l818 x1004) fun x1006 => Option.bind (m_spec_l06Pair x995.1 x995.2.1 x995.2.2.1 x995.2.2.2.1 x995.2.2.2.2 x1006.1 x1006.2.1 x1006.2.2.1 x1006.2.2.2.1 x1006.2.2.2.2) fun y1008 => some ((y1008.1.1, y1008.1.2.1, y1008.1.2.2.1, y1008.1.2.2.2.1, y1008.1.2.2.2.2, y1008.2.1, y1008.2.2))) fun (s979 : Int × Int × Int × Int × Int × Int × Int) => match s979 with | (x963, x964, x965, x966, x967, x969, x970) => Option.bind (geti l1 x828) fun x1040 => Option.bind (geti x1040 0) fun x1047 => Option.bind (geti l823 x1047) fun x1049 => Option.bind (geti l1 x828) fun x1054 => Option.bind (geti x1054 1) fun x1061 => Option.bind (geti (l823.set (Int.toNat x1047) x969) x1061) fun x1063 => Option.bind (apC l818 (([(x963, x964, x965, x966, x967)] : List (Int × Int × Int × Int × Int)))) fun _ => Option.bind (apC ((l823.set (Int.toNat x1047) x969).set (Int.toNat x1061) x970) (([0] : List (Int)))) fun _ => some (Ctl.next ((l818 ++ (([(x963, x964, x965, x966, x967)] : List (Int × Int × Int × Int × Int))), ((l823.set (Int.toNat x1047) x969).set (Int.toNat x1061) x970) ++ (([0] : List (Int))), wr (x828 + 1)))) else some (Ctl.out ((l818, l823))))
noncomputable def m_spec_l06Tree_s1 (l0 : List (Int × Int)) (s179 : (List (Int × Int × Int × Int × Int)) × (List (Int)) × Int) : Option (Ctl ((List (Int × Int × Int × Int × Int)) × (List (Int)) × Int) ((List (Int × Int × Int × Int × Int)) × (List (Int)))) :=
  match s179 with | (l157, l162, x167) => (bif decide (x167 < (((l0).length : Int))) then Option.bind (geti l0 x167) fun x183 => Option.bind (m_spec_l06Leaf x183.1 x183.2) fun y185 => Option.bind (apC l157 (([(y185.1, y185.2.1, y185.2.2.1, y185.2.2.2, 0)] : List (Int × Int × Int × Int × Int)))) fun _ => Option.bind (apC l162 (([0] : List (Int)))) fun _ => some (Ctl.next ((l157 ++ (([(y185.1, y185.2.1, y185.2.2.1, y185.2.2.2, 0)] : List (Int × Int × Int × Int × Int))), l162 ++ (([0] : List (Int))), wr (x167 + 1)))) else some (Ctl.out ((l157, l162))))
noncomputable def m_spec_l06Tree (l0 : List (Int × Int)) (l1 : List (List (Int))) : Option ((List (Int × Int × Int × Int × Int)) × (List (Int))) :=
  Option.bind (loopM (m_spec_l06Tree_s1 l0) ((([] : List (Int × Int × Int × Int × Int)), ([] : List (Int)), 0))) fun (r176 : (List (Int × Int × Int × Int × Int)) × (List (Int))) => match r176 with | (l139, l144) => Option.bind (loopM (m_spec_l06Tree_s2 l1) ((l139, l144, 0))) fun (r836 : (List (Int × Int × Int × Int × Int)) × (List (Int))) => match r836 with | (l801, l806) => some ((l801, l806))

def m_spec_l00Has_s1 (l0 : List (Int)) (p1 : Int) (s24 : Int) : Option (Ctl (Int) (Sum (Unit) ((Bool)))) :=
  (fun (x18 : Int) => (bif decide (x18 < (((l0).length : Int))) then Option.bind (geti l0 x18) fun x28 => (bif x28 == p1 then some (Ctl.out (Sum.inr true)) else some (Ctl.next (wr (x18 + 1)))) else some (Ctl.out (Sum.inl (()))))) s24
noncomputable def m_spec_l00Has (l0 : List (Int)) (p1 : Int) : Option ((Bool)) :=
  Option.bind (loopM (m_spec_l00Has_s1 l0 p1) 0) fun (r21 : Sum (Unit) ((Bool))) => match r21 with | Sum.inl q33 => (some false) | Sum.inr v32 => some v32

noncomputable def m_spec_NearestJoins_s16 (l6416 : List (Int)) (y6435 : (List (Int × Int × Int × Int × Int)) × (List (Int))) (x8266 : Int) (s8885 : (List (Int)) × Int × Int) : Option (Ctl ((List (Int)) × Int × Int) ((List (Int)) × Int)) :=
  match s8885 with | (l8865, x8870, x8871) => (bif decide (x8871 < (((l6416).length : Int))) then Option.bind (Option.bind (geti l6416 x8266) fun x9059 => Option.bind (geti y6435.1 x9059) fun x9061 => Option.bind (geti l6416 x8871) fun x9063 => Option.bind (geti y6435.1 x9063) fun x9065 => Option.bind (m_spec_l06Far x9061.1 x9061.2.1 x9061.2.2.1 x9061.2.2.2.1 x9065.1 x9065.2.1 x9065.2.2.1 x9065.2.2.2.1) fun y9067 => (bif decide (x8870 < 0) then Option.bind (geti l6416 x8266) fun x9101 => Option.bind (geti l6416 x8871) fun x9103 => some ((([x9101, x9103] : List (Int)), y9067)) else (bif decide (y9067 < x8870) then Option.bind (geti l6416 x8266) fun x9144 => Option.bind (geti l6416 x8871) fun x9146 => some ((([x9144, x9146] : List (Int)), y9067)) else some ((l8865, x8870))))) fun (s9031 : (List (Int)) × Int) => match s9031 with | (l9015, x9020) => some (Ctl.next ((l9015, x9020, wr (x8871 + 1)))) else some (Ctl.out ((l8865, x8870))))
noncomputable def m_spec_NearestJoins_s17 (l6416 : List (Int)) (l8244 : List (Int)) (s9415 : (List (Int)) × Int) : Option (Ctl ((List (Int)) × Int) ((List (Int)))) :=
  match s9415 with | (l9394, x9399) => (bif decide (x9399 < (((l6416).length : Int))) then Option.bind (Option.bind (geti l6416 x9399) fun x9474 => Option.bind (m_spec_l00Has l8244 x9474) fun y9476 => (bif !y9476 then Option.bind (geti l6416 x9399) fun x9481 => Option.bind (apC l9394 (([x9481] : List (Int)))) fun _ => some (l9394 ++ (([x9481] : List (Int)))) else some l9394)) fun (s9472 : (List (Int))) => (fun (l9455 : List (Int)) => some (Ctl.next ((l9455, wr (x9399 + 1))))) s9472 else some (Ctl.out l9394))
noncomputable def m_spec_NearestJoins_s15 (l6416 : List (Int)) (y6435 : (List (Int × Int × Int × Int × Int)) × (List (Int))) (s8280 : (List (Int)) × Int × Int) : Option (Ctl ((List (Int)) × Int × Int) ((List (Int)))) :=
  match s8280 with | (l8260, x8265, x8266) => (bif decide (x8266 < (((l6416).length : Int))) then Option.bind (loopM (m_spec_NearestJoins_s16 l6416 y6435 x8266) ((l8260, x8265, wr (x8266 + 1)))) fun (r8882 : (List (Int)) × Int) => match r8882 with | (l8848, x8853) => some (Ctl.next ((l8848, x8853, wr (x8266 + 1)))) else some (Ctl.out l8260))
noncomputable def m_spec_NearestJoins_s12 (l0 : List (Int × Int)) (s6431 : (List (List (Int))) × (List (Int))) : Option (Ctl ((List (List (Int))) × (List (Int))) ((List (List (Int))))) :=
  match s6431 with | (l6410, l6416) => (bif decide ((((l6416).length : Int)) > 1) then Option.bind (m_spec_l06Tree l0 l6410) fun y6435 => Option.bind (loopM (m_spec_NearestJoins_s15 l6416 y6435) ((([] : List (Int)), (-1), 0))) fun (r8277 : (List (Int))) => (fun (l8244 : List (Int)) => Option.bind (loopM (m_spec_NearestJoins_s17 l6416 l8244) ((([] : List (Int)), 0))) fun (r9412 : (List (Int))) => (fun (l9378 : List (Int)) => Option.bind (apC l9378 (([((y6435.1).length : Int)] : List (Int)))) fun _ => Option.bind (apC l6410 (([l8244] : List (List (Int))))) fun _ => some (Ctl.next ((l6410 ++ (([l8244] : List (List (Int)))), l9378 ++ (([((y6435.1).length : Int)] : List (Int))))))) r9412) r8277 else some (Ctl.out l6410))
noncomputable def m_spec_NearestJoins_s1 (l0 : List (Int × Int)) (s106 : (List (Int)) × Int) : Option (Ctl ((List (Int)) × Int) ((List (Int)))) :=
  match s106 with | (l91, x96) => (bif decide (x96 < (((l0).length : Int))) then Option.bind (apC l91 (([x96] : List (Int)))) fun _ => some (Ctl.next ((l91 ++ (([x96] : List (Int))), wr (x96 + 1)))) else some (Ctl.out l91))
noncomputable def m_spec_NearestJoins (l0 : List (Int × Int)) : Option ((List (List (Int))) × (Bool)) :=
  Option.bind (m_spec_l06Pins l0) fun y2 => (bif !y2 then some (([], false)) else Option.bind (loopM (m_spec_NearestJoins_s1 l0) ((([] : List (Int)), 0))) fun (r103 : (List (Int))) => (fun (l79 : List (Int)) => Option.bind (loopM (m_spec_NearestJoins_s12 l0) ((([] : List (List (Int))), l79))) fun (r6428 : (List (List (Int)))) => (fun (l6400 : List (List (Int))) => some ((l6400, true))) r6428) r103)

def m_laws_markPointS_s1  (s52 : Int × Int × (List (Int × Int))) : Option (Ctl (Int × Int × (List (Int × Int))) (Int × (List (Int × Int)))) :=
  match s52 with | (x43, x44, l45) => (bif decide (x44 < (((l45).length : Int))) then Option.bind (geti l45 x44) fun x56 => Option.bind (geti (l45.set (Int.toNat x44) ((x43, x56.2))) x44) fun x62 => some (Ctl.next ((wr ((wr (x43 + 1)) + 1), wr (x44 + 1), (l45.set (Int.toNat x44) ((x43, x56.2))).set (Int.toNat x44) ((x62.1, wr (x43 + 1)))))) else some (Ctl.out ((x43, l45))))
noncomputable def m_laws_markPointS (l0 : List (Int × Int)) (p1 : Int) : Option ((Int) × (List (Int × Int))) :=
  Option.bind (loopM (m_laws_markPointS_s1) ((p1, 0, l0))) fun (r49 : Int × (List (Int × Int))) => match r49 with | (x37, l38) => some ((x37, l38))

def m_laws_markInt64S_s1  (s40 : Int × Int × (List (Int))) : Option (Ctl (Int × Int × (List (Int))) (Int × (List (Int)))) :=
  match s40 with | (x31, x32, l33) => (bif decide (x32 < (((l33).length : Int))) then Option.bind (geti l33 x32) fun x44 => some (Ctl.next ((wr (x31 + 1), wr (x32 + 1), l33.set (Int.toNat x32) x31))) else some (Ctl.out ((x31, l33))))
noncomputable def m_laws_markInt64S (l0 : List (Int)) (p1 : Int) : Option ((Int) × (List (Int))) :=
  Option.bind (loopM (m_laws_markInt64S_s1) ((p1, 0, l0))) fun (r37 : Int × (List (Int))) => match r37 with | (x25, l26) => some ((x25, l26))

noncomputable def m_laws_markInt64SS_s1  (s68 : Int × Int × (List (List (Int)))) : Option (Ctl (Int × Int × (List (List (Int)))) (Int × (List (List (Int))))) :=
  match s68 with | (x59, x60, l61) => (bif decide (x60 < (((l61).length : Int))) then Option.bind (geti l61 x60) fun x72 => Option.bind (m_laws_markInt64S x72 x59) fun y83 => some (Ctl.next ((y83.1, wr (x60 + 1), l61.set (Int.toNat x60) y83.2))) else some (Ctl.out ((x59, l61))))
noncomputable def m_laws_markInt64SS (l0 : List (List (Int))) (p1 : Int) : Option ((Int) × (List (List (Int)))) :=
  Option.bind (loopM (m_laws_markInt64SS_s1) ((p1, 0, l0))) fun (r65 : Int × (List (List (Int)))) => match r65 with | (x53, l54) => some ((x53, l54))

def m_laws_heldInt64S_s1 (l0 : List (Int)) (s27 : Int × Int) : Option (Ctl (Int × Int) (Sum (Int) ((Int)))) :=
  match s27 with | (x20, x21) => (bif decide (x21 < (((l0).length : Int))) then Option.bind (geti l0 x21) fun x31 => (bif x31 != x20 then some (Ctl.out (Sum.inr ((-1)))) else some (Ctl.next ((wr (x20 + 1), wr (x21 + 1))))) else some (Ctl.out (Sum.inl x20)))
noncomputable def m_laws_heldInt64S (l0 : List (Int)) (p1 : Int) : Option ((Int)) :=
  Option.bind (loopM (m_laws_heldInt64S_s1 l0) ((p1, 0))) fun (r24 : Sum (Int) ((Int))) => match r24 with | Sum.inl q36 => ((fun (x17 : Int) => some x17) q36) | Sum.inr v35 => some v35

noncomputable def m_laws_heldInt64SS_s1 (l0 : List (List (Int))) (s45 : Int × Int) : Option (Ctl (Int × Int) (Sum (Int) ((Int)))) :=
  match s45 with | (x38, x39) => (bif decide (x39 < (((l0).length : Int))) then Option.bind (geti l0 x39) fun x49 => Option.bind (m_laws_heldInt64S x49 x38) fun y56 => (bif decide (y56 < 0) then some (Ctl.out (Sum.inr ((-1)))) else some (Ctl.next ((y56, wr (x39 + 1))))) else some (Ctl.out (Sum.inl x38)))
noncomputable def m_laws_heldInt64SS (l0 : List (List (Int))) (p1 : Int) : Option ((Int)) :=
  Option.bind (loopM (m_laws_heldInt64SS_s1 l0) ((p1, 0))) fun (r42 : Sum (Int) ((Int))) => match r42 with | Sum.inl q63 => ((fun (x35 : Int) => some x35) q63) | Sum.inr v62 => some v62

noncomputable def m_spec_l06Ask (l0 : List (Int × Int)) (l1 : List (List (Int))) : Option ((Bool)) :=
  Option.bind (m_spec_l06Pins l0) fun y3 => (bif y3 then Option.bind (m_spec_l06Joins (((l0).length : Int)) l1) fun y8 => some y8 else some false)

noncomputable def m_spec_ClockWires (l0 : List (Int × Int)) (l1 : List (List (Int))) : Option ((List (Int)) × (Bool)) :=
  Option.bind (m_spec_l06Ask l0 l1) fun y3 => (bif !y3 then some (([], false)) else Option.bind (m_spec_l06Tree l0 l1) fun y8 => some ((y8.2, true)))

noncomputable def m_laws_FnExactClockWires (l0 : List (Int × Int)) (l1 : List (List (Int))) : Option ((Bool)) :=
  Option.bind (m_laws_szPointS l0 1048576) fun y3 => (bif decide (y3 < 0) then some true else Option.bind (m_laws_szInt64SS l1 y3) fun y8 => (bif decide (y8 < 0) then some true else Option.bind (m_laws_toPointS l0) fun y13 => Option.bind (m_laws_toInt64SS l1) fun y24 => Option.bind (m_spec_ClockWires y13 y24) fun y36 => Option.bind (m_laws_toPointS l0) fun y50 => Option.bind (m_laws_toInt64SS l1) fun y64 => Option.bind (m_impl_ClockWires y50 y64) fun y79 => Option.bind (m_laws_eqInt64S y79.1 y36.1) fun y95 => (bif !y95 then some false else (bif !(y79.2 == y36.2) then some false else Option.bind (m_laws_toPointS l0) fun y103 => Option.bind (m_laws_eqPointS y50 y103) fun y120 => (bif !y120 then some false else Option.bind (m_laws_toInt64SS l1) fun y125 => Option.bind (m_laws_eqInt64SS y64 y125) fun y143 => (bif !y143 then some false else Option.bind (m_laws_markPointS y50 1) fun y148 => Option.bind (m_laws_markInt64SS y64 y148.1) fun y154 => (bif decide (y154.1 < 0) then some false else Option.bind (m_laws_eqInt64S y79.1 y36.1) fun y162 => (bif !y162 then some false else (bif !(y79.2 == y36.2) then some false else Option.bind (m_laws_markInt64S y79.1 1) fun y168 => Option.bind (m_laws_heldInt64S y168.2 1) fun y175 => (bif decide (y175 < 0) then some false else (bif y175 != y168.1 then some false else Option.bind (m_laws_toPointS l0) fun y181 => Option.bind (m_laws_toInt64SS l1) fun y200 => Option.bind (m_impl_ClockWires y181 y200) fun y220 => Option.bind (m_laws_eqInt64S y220.1 y36.1) fun y242 => (bif !y242 then some false else (bif !(y220.2 == y36.2) then some false else Option.bind (m_laws_heldInt64S y168.2 1) fun y248 => (bif decide (y248 < 0) then some false else (bif y248 != y168.1 then some false else some true)))))))))))))))

def m_spec_l06Sum_s1 (l0 : List (Int)) (s25 : Int × Int) : Option (Ctl (Int × Int) (Int)) :=
  match s25 with | (x18, x19) => (bif decide (x19 < (((l0).length : Int))) then Option.bind (geti l0 x19) fun x29 => some (Ctl.next ((wr (x18 + x29), wr (x19 + 1)))) else some (Ctl.out x18))
noncomputable def m_spec_l06Sum (l0 : List (Int)) : Option ((Int)) :=
  Option.bind (loopM (m_spec_l06Sum_s1 l0) ((0, 0))) fun (r22 : Int) => (fun (x15 : Int) => some x15) r22

noncomputable def m_spec_ClockMerges (l0 : List (Int × Int)) (l1 : List (List (Int))) : Option ((List (Int × Int × Int × Int × Int)) × (Bool)) :=
  Option.bind (m_spec_l06Ask l0 l1) fun y3 => (bif !y3 then some (([], false)) else Option.bind (m_spec_l06Tree l0 l1) fun y8 => some ((y8.1, true)))

def m_laws_eqMergeS_s1 (l0 : List (Int × Int × Int × Int × Int)) (l1 : List (Int × Int × Int × Int × Int)) (s73 : Int) : Option (Ctl (Int) (Sum (Unit) ((Bool)))) :=
  (fun (x66 : Int) => (bif decide (x66 < (((l0).length : Int))) then Option.bind (geti l0 x66) fun x93 => Option.bind (geti l1 x66) fun x95 => Option.bind (m_laws_eqMerge x93.1 x93.2.1 x93.2.2.1 x93.2.2.2.1 x93.2.2.2.2 x95.1 x95.2.1 x95.2.2.1 x95.2.2.2.1 x95.2.2.2.2) fun y97 => (bif !y97 then some (Ctl.out (Sum.inr false)) else some (Ctl.next (wr (x66 + 1)))) else some (Ctl.out (Sum.inl (()))))) s73
noncomputable def m_laws_eqMergeS (l0 : List (Int × Int × Int × Int × Int)) (l1 : List (Int × Int × Int × Int × Int)) : Option ((Bool)) :=
  (bif (((l0).length : Int)) != (((l1).length : Int)) then some false else Option.bind (loopM (m_laws_eqMergeS_s1 l0 l1) 0) fun (r70 : Sum (Unit) ((Bool))) => match r70 with | Sum.inl q104 => (some true) | Sum.inr v103 => some v103)

def m_laws_markMergeS_s1  (s90 : Int × Int × (List (Int × Int × Int × Int × Int))) : Option (Ctl (Int × Int × (List (Int × Int × Int × Int × Int))) (Int × (List (Int × Int × Int × Int × Int)))) :=
  match s90 with | (x81, x82, l83) => (bif decide (x82 < (((l83).length : Int))) then Option.bind (geti l83 x82) fun x94 => Option.bind (geti (l83.set (Int.toNat x82) ((x81, x94.2.1, x94.2.2.1, x94.2.2.2.1, x94.2.2.2.2))) x82) fun x100 => Option.bind (geti ((l83.set (Int.toNat x82) ((x81, x94.2.1, x94.2.2.1, x94.2.2.2.1, x94.2.2.2.2))).set (Int.toNat x82) ((x100.1, wr (x81 + 1), x100.2.2.1, x100.2.2.2.1, x100.2.2.2.2))) x82) fun x106 => Option.bind (geti (((l83.set (Int.toNat x82) ((x81, x94.2.1, x94.2.2.1, x94.2.2.2.1, x94.2.2.2.2))).set (Int.toNat x82) ((x100.1, wr (x81 + 1), x100.2.2.1, x100.2.2.2.1, x100.2.2.2.2))).set (Int.toNat x82) ((x106.1, x106.2.1, wr ((wr (x81 + 1)) + 1), x106.2.2.2.1, x106.2.2.2.2))) x82) fun x113 => Option.bind (geti ((((l83.set (Int.toNat x82) ((x81, x94.2.1, x94.2.2.1, x94.2.2.2.1, x94.2.2.2.2))).set (Int.toNat x82) ((x100.1, wr (x81 + 1), x100.2.2.1, x100.2.2.2.1, x100.2.2.2.2))).set (Int.toNat x82) ((x106.1, x106.2.1, wr ((wr (x81 + 1)) + 1), x106.2.2.2.1, x106.2.2.2.2))).set (Int.toNat x82) ((x113.1, x113.2.1, x113.2.2.1, wr ((wr ((wr (x81 + 1)) + 1)) + 1), x113.2.2.2.2))) x82) fun x119 => some (Ctl.next ((wr ((wr ((wr ((wr ((wr (x81 + 1)) + 1)) + 1)) + 1)) + 1), wr (x82 + 1), ((((l83.set (Int.toNat x82) ((x81, x94.2.1, x94.2.2.1, x94.2.2.2.1, x94.2.2.2.2))).set (Int.toNat x82) ((x100.1, wr (x81 + 1), x100.2.2.1, x100.2.2.2.1, x100.2.2.2.2))).set (Int.toNat x82) ((x106.1, x106.2.1, wr ((wr (x81 + 1)) + 1), x106.2.2.2.1, x106.2.2.2.2))).set (Int.toNat x82) ((x113.1, x113.2.1, x113.2.2.1, wr ((wr ((wr (x81 + 1)) + 1)) + 1), x113.2.2.2.2))).set (Int.toNat x82) ((x119.1, x119.2.1, x119.2.2.1, x119.2.2.2.1, wr ((wr ((wr ((wr (x81 + 1)) + 1)) + 1)) + 1)))))) else some (Ctl.out ((x81, l83))))
noncomputable def m_laws_markMergeS (l0 : List (Int × Int × Int × Int × Int)) (p1 : Int) : Option ((Int) × (List (Int × Int × Int × Int × Int))) :=
  Option.bind (loopM (m_laws_markMergeS_s1) ((p1, 0, l0))) fun (r87 : Int × (List (Int × Int × Int × Int × Int))) => match r87 with | (x75, l76) => some ((x75, l76))

def m_laws_heldMergeS_s1 (l0 : List (Int × Int × Int × Int × Int)) (s55 : Int × Int) : Option (Ctl (Int × Int) (Sum (Int) ((Int)))) :=
  match s55 with | (x48, x49) => (bif decide (x49 < (((l0).length : Int))) then Option.bind (geti l0 x49) fun x59 => (bif x59.1 != x48 then some (Ctl.out (Sum.inr ((-1)))) else Option.bind (geti l0 x49) fun x62 => (bif x62.2.1 != (wr (x48 + 1)) then some (Ctl.out (Sum.inr ((-1)))) else Option.bind (geti l0 x49) fun x66 => (bif x66.2.2.1 != (wr ((wr (x48 + 1)) + 1)) then some (Ctl.out (Sum.inr ((-1)))) else Option.bind (geti l0 x49) fun x69 => (bif x69.2.2.2.1 != (wr ((wr ((wr (x48 + 1)) + 1)) + 1)) then some (Ctl.out (Sum.inr ((-1)))) else Option.bind (geti l0 x49) fun x73 => (bif x73.2.2.2.2 != (wr ((wr ((wr ((wr (x48 + 1)) + 1)) + 1)) + 1)) then some (Ctl.out (Sum.inr ((-1)))) else some (Ctl.next ((wr ((wr ((wr ((wr ((wr (x48 + 1)) + 1)) + 1)) + 1)) + 1), wr (x49 + 1))))))))) else some (Ctl.out (Sum.inl x48)))
noncomputable def m_laws_heldMergeS (l0 : List (Int × Int × Int × Int × Int)) (p1 : Int) : Option ((Int)) :=
  Option.bind (loopM (m_laws_heldMergeS_s1 l0) ((p1, 0))) fun (r52 : Sum (Int) ((Int))) => match r52 with | Sum.inl q78 => ((fun (x45 : Int) => some x45) q78) | Sum.inr v77 => some v77

noncomputable def m_laws_FnExactClockMerges (l0 : List (Int × Int)) (l1 : List (List (Int))) : Option ((Bool)) :=
  Option.bind (m_laws_szPointS l0 1048576) fun y3 => (bif decide (y3 < 0) then some true else Option.bind (m_laws_szInt64SS l1 y3) fun y8 => (bif decide (y8 < 0) then some true else Option.bind (m_laws_toPointS l0) fun y13 => Option.bind (m_laws_toInt64SS l1) fun y24 => Option.bind (m_spec_ClockMerges y13 y24) fun y36 => Option.bind (m_laws_toPointS l0) fun y50 => Option.bind (m_laws_toInt64SS l1) fun y64 => Option.bind (m_impl_ClockMerges y50 y64) fun y79 => Option.bind (m_laws_eqMergeS y79.1 y36.1) fun y95 => (bif !y95 then some false else (bif !(y79.2 == y36.2) then some false else Option.bind (m_laws_toPointS l0) fun y103 => Option.bind (m_laws_eqPointS y50 y103) fun y120 => (bif !y120 then some false else Option.bind (m_laws_toInt64SS l1) fun y125 => Option.bind (m_laws_eqInt64SS y64 y125) fun y143 => (bif !y143 then some false else Option.bind (m_laws_markPointS y50 1) fun y148 => Option.bind (m_laws_markInt64SS y64 y148.1) fun y154 => (bif decide (y154.1 < 0) then some false else Option.bind (m_laws_eqMergeS y79.1 y36.1) fun y162 => (bif !y162 then some false else (bif !(y79.2 == y36.2) then some false else Option.bind (m_laws_markMergeS y79.1 1) fun y168 => Option.bind (m_laws_heldMergeS y168.2 1) fun y175 => (bif decide (y175 < 0) then some false else (bif y175 != y168.1 then some false else Option.bind (m_laws_toPointS l0) fun y181 => Option.bind (m_laws_toInt64SS l1) fun y200 => Option.bind (m_impl_ClockMerges y181 y200) fun y220 => Option.bind (m_laws_eqMergeS y220.1 y36.1) fun y242 => (bif !y242 then some false else (bif !(y220.2 == y36.2) then some false else Option.bind (m_laws_heldMergeS y168.2 1) fun y248 => (bif decide (y248 < 0) then some false else (bif y248 != y168.1 then some false else some true)))))))))))))))

noncomputable def m_impl_ClockPlaces_s4 (y3 : (List (Int × Int × Int × Int × Int)) × (List (Int)) × (Bool)) (x961 : List (Int)) (x970 : List (Int)) (s1252 : (List (List (Int))) × Int) : Option (Ctl ((List (List (Int))) × Int) ((List (List (Int))))) :=
  match s1252 with | (l1232, x1238) => (bif decide (x1238 < (((x970).length : Int))) then Option.bind (geti x970 x1238) fun x1256 => Option.bind (geti y3.1 x1256) fun x1258 => Option.bind (geti x961 0) fun x1326 => Option.bind (geti x961 1) fun x1328 => Option.bind (m_impl_nearest x1326 x1258.1 x1258.2.1) fun y1330 => Option.bind (m_impl_nearest x1328 x1258.2.2.1 x1258.2.2.2.1) fun y1334 => Option.bind (geti l1232 x1256) fun x1349 => some (Ctl.next ((l1232.set (Int.toNat x1256) (([y1330, y1334] : List (Int))), wr (x1238 + 1)))) else some (Ctl.out l1232))
noncomputable def m_impl_ClockPlaces_s3 (l0 : List (Int × Int)) (l1 : List (List (Int))) (y3 : (List (Int × Int × Int × Int × Int)) × (List (Int)) × (Bool)) (s957 : (List (List (Int))) × Int) : Option (Ctl ((List (List (Int))) × Int) ((List (List (Int))))) :=
  match s957 with | (l940, x946) => (bif decide (x946 ≥ 0) then Option.bind (geti l940 (wr ((((l0).length : Int)) + x946))) fun x961 => Option.bind (geti l1 x946) fun x970 => Option.bind (loopM (m_impl_ClockPlaces_s4 y3 x961 x970) ((l940, 0))) fun (r1249 : (List (List (Int)))) => (fun (l1218 : List (List (Int))) => some (Ctl.next ((l1218, wr (x946 - 1))))) r1249 else some (Ctl.out l940))
noncomputable def m_impl_ClockPlaces (l0 : List (Int × Int)) (l1 : List (List (Int))) : Option ((List (List (Int))) × (Bool)) :=
  Option.bind (m_impl_tree l0 l1) fun y3 => (bif !y3.2.2 then some (([], false)) else Option.bind (mkC (((y3.1).length : Int))) fun _ => Option.bind (geti y3.1 (wr ((((y3.1).length : Int)) - 1))) fun x74 => Option.bind (geti y3.1 (wr ((((y3.1).length : Int)) - 1))) fun x76 => Option.bind (geti (List.replicate (Int.toNat (((y3.1).length : Int))) ([] : List (Int))) (wr ((((y3.1).length : Int)) - 1))) fun x88 => Option.bind (loopM (m_impl_ClockPlaces_s3 l0 l1 y3) (((List.replicate (Int.toNat (((y3.1).length : Int))) ([] : List (Int))).set (Int.toNat (wr ((((y3.1).length : Int)) - 1))) (([x74.1, x76.2.2.1] : List (Int))), wr ((((l1).length : Int)) - 1)))) fun (r954 : (List (List (Int)))) => (fun (l930 : List (List (Int))) => some ((l930, true))) r954)

noncomputable def m_spec_ClockPlaces_s5 (l1 : List (List (Int))) (y8 : (List (Int × Int × Int × Int × Int)) × (List (Int))) (x1304 : Int) (x1319 : List (Int)) (s1652 : (List (List (Int))) × Int) : Option (Ctl ((List (List (Int))) × Int) ((List (List (Int))))) :=
  match s1652 with | (l1633, x1639) => (bif decide (x1639 < 2) then Option.bind (geti l1 x1304) fun x1656 => Option.bind (geti x1656 x1639) fun x1663 => Option.bind (geti y8.1 x1663) fun x1665 => Option.bind (geti x1319 0) fun x1707 => Option.bind (m_spec_l00Max x1707 x1665.1) fun y1709 => Option.bind (m_spec_l00Min y1709 x1665.2.1) fun y1713 => Option.bind (geti x1319 1) fun x1746 => Option.bind (m_spec_l00Max x1746 x1665.2.2.1) fun y1748 => Option.bind (m_spec_l00Min y1748 x1665.2.2.2.1) fun y1752 => Option.bind (geti l1 x1304) fun x1756 => Option.bind (geti x1756 x1639) fun x1763 => Option.bind (geti l1633 x1763) fun x1775 => some (Ctl.next ((l1633.set (Int.toNat x1763) (([y1713, y1752] : List (Int))), wr (x1639 + 1)))) else some (Ctl.out l1633))
noncomputable def m_spec_ClockPlaces_s4 (l0 : List (Int × Int)) (l1 : List (List (Int))) (y8 : (List (Int × Int × Int × Int × Int)) × (List (Int))) (s1315 : (List (List (Int))) × Int) : Option (Ctl ((List (List (Int))) × Int) ((List (List (Int))))) :=
  match s1315 with | (l1298, x1304) => (bif decide (x1304 ≥ 0) then Option.bind (geti l1298 (wr ((((l0).length : Int)) + x1304))) fun x1319 => Option.bind (loopM (m_spec_ClockPlaces_s5 l1 y8 x1304 x1319) ((l1298, 0))) fun (r1649 : (List (List (Int)))) => (fun (l1619 : List (List (Int))) => some (Ctl.next ((l1619, wr (x1304 - 1))))) r1649 else some (Ctl.out l1298))
noncomputable def m_spec_ClockPlaces_s1 (y8 : (List (Int × Int × Int × Int × Int)) × (List (Int))) (s242 : (List (List (Int))) × Int) : Option (Ctl ((List (List (Int))) × Int) ((List (List (Int))))) :=
  match s242 with | (l225, x231) => (bif decide (x231 ≤ (wr ((((y8.1).length : Int)) - 1))) then Option.bind (geti y8.1 x231) fun x290 => Option.bind (geti y8.1 x231) fun x292 => Option.bind (apC l225 (([([x290.1, x292.2.2.1] : List (Int))] : List (List (Int))))) fun _ => some (Ctl.next ((l225 ++ (([([x290.1, x292.2.2.1] : List (Int))] : List (List (Int)))), wr (x231 + 1)))) else some (Ctl.out l225))
noncomputable def m_spec_ClockPlaces (l0 : List (Int × Int)) (l1 : List (List (Int))) : Option ((List (List (Int))) × (Bool)) :=
  Option.bind (m_spec_l06Ask l0 l1) fun y3 => (bif !y3 then some (([], false)) else Option.bind (m_spec_l06Tree l0 l1) fun y8 => Option.bind (loopM (m_spec_ClockPlaces_s1 y8) ((([] : List (List (Int))), 0))) fun (r239 : (List (List (Int)))) => (fun (l211 : List (List (Int))) => Option.bind (loopM (m_spec_ClockPlaces_s4 l0 l1 y8) ((l211, wr ((((l1).length : Int)) - 1)))) fun (r1312 : (List (List (Int)))) => (fun (l1288 : List (List (Int))) => some ((l1288, true))) r1312) r239)

noncomputable def m_laws_FnExactClockPlaces (l0 : List (Int × Int)) (l1 : List (List (Int))) : Option ((Bool)) :=
  Option.bind (m_laws_szPointS l0 1048576) fun y3 => (bif decide (y3 < 0) then some true else Option.bind (m_laws_szInt64SS l1 y3) fun y8 => (bif decide (y8 < 0) then some true else Option.bind (m_laws_toPointS l0) fun y13 => Option.bind (m_laws_toInt64SS l1) fun y24 => Option.bind (m_spec_ClockPlaces y13 y24) fun y36 => Option.bind (m_laws_toPointS l0) fun y50 => Option.bind (m_laws_toInt64SS l1) fun y64 => Option.bind (m_impl_ClockPlaces y50 y64) fun y79 => Option.bind (m_laws_eqInt64SS y79.1 y36.1) fun y95 => (bif !y95 then some false else (bif !(y79.2 == y36.2) then some false else Option.bind (m_laws_toPointS l0) fun y103 => Option.bind (m_laws_eqPointS y50 y103) fun y120 => (bif !y120 then some false else Option.bind (m_laws_toInt64SS l1) fun y125 => Option.bind (m_laws_eqInt64SS y64 y125) fun y143 => (bif !y143 then some false else Option.bind (m_laws_markPointS y50 1) fun y148 => Option.bind (m_laws_markInt64SS y64 y148.1) fun y154 => (bif decide (y154.1 < 0) then some false else Option.bind (m_laws_eqInt64SS y79.1 y36.1) fun y162 => (bif !y162 then some false else (bif !(y79.2 == y36.2) then some false else Option.bind (m_laws_markInt64SS y79.1 1) fun y168 => Option.bind (m_laws_heldInt64SS y168.2 1) fun y175 => (bif decide (y175 < 0) then some false else (bif y175 != y168.1 then some false else Option.bind (m_laws_toPointS l0) fun y181 => Option.bind (m_laws_toInt64SS l1) fun y200 => Option.bind (m_impl_ClockPlaces y181 y200) fun y220 => Option.bind (m_laws_eqInt64SS y220.1 y36.1) fun y242 => (bif !y242 then some false else (bif !(y220.2 == y36.2) then some false else Option.bind (m_laws_heldInt64SS y168.2 1) fun y248 => (bif decide (y248 < 0) then some false else (bif y248 != y168.1 then some false else some true)))))))))))))))

end Go.Proofs.Ytmodhpgnkbnbaaa
