/- Printed models: what each function reckons, in plain Lean. -/
import Derived.Test.YtngnljnfbfgfeaaApp
set_option linter.unusedSimpArgs false
set_option linter.unusedVariables false
namespace Go.Proofs.Ytngnljnfbfgfeaa
open Go.RowKit

def m_laws_b10Long (l0 : List (Int)) (l1 : List (Int)) : Option ((Bool)) :=
  (bif decide ((((l0).length : Int)) > 1048576) then some true else some (decide ((((l1).length : Int)) > 1048576)))

def m_spec_l00From (l0 : List (Int)) : Option ((Int × Int)) :=
  some ((0, 0))

def m_spec_l00Src_next_bspecl00Src (l0_0 : List (Int)) (q0_1 : Int) (q0_2 : Int) : Option ((Int) × (Int) × (Int)) :=
  Option.bind ((bif decide (q0_1 < (((l0_0).length : Int))) then Option.bind (geti l0_0 q0_1) fun x50 => some (wr x50) else some 0)) fun (s29 : Int) => (fun (x25 : Int) => (bif decide ((wr (q0_1 + 1)) ≤ (((l0_0).length : Int))) then some ((x25, wr (q0_1 + 1), wu ((wu ((wu (q0_2 * 6364136223846793005)) + (wu x25))) + 1442695040888963407))) else some ((wr (andU (shrU (wu ((wu ((wu (q0_2 * 6364136223846793005)) + (wu x25))) + 1442695040888963407)) 40) 255), wr (q0_1 + 1), wu ((wu ((wu (q0_2 * 6364136223846793005)) + (wu x25))) + 1442695040888963407))))) s29

def m_spec_l00Src_pick_bspecl00Src (l0_0 : List (Int)) (q0_1 : Int) (q0_2 : Int) (p1 : Int) : Option ((Int) × (Int) × (Int)) :=
  (bif decide (p1 ≤ 1) then some ((0, q0_1, q0_2)) else Option.bind (m_spec_l00Src_next_bspecl00Src l0_0 q0_1 q0_2) fun y4 => Option.bind ((bif decide (p1 > 200) then Option.bind (m_spec_l00Src_next_bspecl00Src l0_0 y4.2.1 y4.2.2) fun y25 => some ((wr ((wr (y4.1 * 256)) + y25.1), y25.2.1, y25.2.2)) else some ((y4.1, y4.2.1, y4.2.2)))) fun (s22 : Int × Int × Int) => match s22 with | (x16, x17, x18) => Option.bind (nzC p1) fun u30 => some ((Int.tmod x16 p1, x17, x18)))

def m_spec_l00Src_one_bspecl00Src (l0_0 : List (Int)) (q0_1 : Int) (q0_2 : Int) (p1 : Int) : Option ((Bool) × (Int) × (Int)) :=
  Option.bind (m_spec_l00Src_pick_bspecl00Src l0_0 q0_1 q0_2 p1) fun y3 => some ((y3.1 == 0, y3.2.1, y3.2.2))

noncomputable def m_spec_l07DrawOk_bspecl00Src_s5 (l0_0 : List (Int)) (x34 : Int) (l539 : List (Int)) (x6334 : Int) (s8239 : Bool × Int × (List (List (Int))) × (List (List (Int))) × Int × Int) : Option (Ctl (Bool × Int × (List (List (Int))) × (List (List (Int))) × Int × Int) (Bool × (List (List (Int))) × (List (List (Int))) × Int × Int)) :=
  match s8239 with | (x8200, x8201, l8202, l8208, x8214, x8215) => (bif decide (x8201 < x34) then Option.bind (Option.bind (Option.bind (m_spec_l00Src_one_bspecl00Src l0_0 x8214 x8215 4) fun y8889 => (bif y8889.1 then (bif decide ((((l8202).length : Int)) < 12) then (bif x8200 then Option.bind (apC l8202 (([([x6334, x8201] : List (Int))] : List (List (Int))))) fun _ => some ((true, l8202 ++ (([([x6334, x8201] : List (Int))] : List (List (Int)))), y8889.2.1, y8889.2.2)) else Option.bind (geti l539 x6334) fun x8940 => Option.bind (geti l539 x8201) fun x8942 => (bif x8940 != x8942 then Option.bind (apC l8202 (([([x6334, x8201] : List (Int))] : List (List (Int))))) fun _ => some ((false, l8202 ++ (([([x6334, x8201] : List (Int))] : List (List (Int)))), y8889.2.1, y8889.2.2)) else some ((false, l8202, y8889.2.1, y8889.2.2)))) else some ((x8200, l8202, y8889.2.1, y8889.2.2))) else some ((x8200, l8202, y8889.2.1, y8889.2.2)))) fun (s8855 : Bool × (List (List (Int))) × Int × Int) => match s8855 with | (x8831, l8832, x8838, x8839) => Option.bind (m_spec_l00Src_one_bspecl00Src l0_0 x8838 x8839 4) fun y8990 => (bif y8990.1 then (bif decide ((((l8208).length : Int)) < 12) then Option.bind (m_spec_l00Src_pick_bspecl00Src l0_0 y8990.2.1 y8990.2.2 6) fun y9065 => Option.bind (apC l8208 (([([x6334, x8201, y9065.1] : List (Int))] : List (List (Int))))) fun _ => some ((x8831, l8832, l8208 ++ (([([x6334, x8201, y9065.1] : List (Int))] : List (List (Int)))), y9065.2.1, y9065.2.2)) else some ((x8831, l8832, l8208, y8990.2.1, y8990.2.2))) else some ((x8831, l8832, l8208, y8990.2.1, y8990.2.2)))) fun (s8695 : Bool × (List (List (Int))) × (List (List (Int))) × Int × Int) => match s8695 with | (x8660, l8661, l8667, x8673, x8674) => some (Ctl.next ((x8660, wr (x8201 + 1), l8661, l8667, x8673, x8674))) else some (Ctl.out ((x8200, l8202, l8208, x8214, x8215))))
noncomputable def m_spec_l07DrawOk_bspecl00Src_s4 (l0_0 : List (Int)) (x34 : Int) (l539 : List (Int)) (s6372 : Bool × Int × (List (List (Int))) × (List (List (Int))) × Int × Int) : Option (Ctl (Bool × Int × (List (List (Int))) × (List (List (Int))) × Int × Int) ((List (List (Int))) × (List (List (Int))) × Int × Int)) :=
  match s6372 with | (x6333, x6334, l6335, l6341, x6347, x6348) => (bif decide (x6334 < x34) then Option.bind (loopM (m_spec_l07DrawOk_bspecl00Src_s5 l0_0 x34 l539 x6334) ((x6333, wr (x6334 + 1), l6335, l6341, x6347, x6348))) fun (r8236 : Bool × (List (List (Int))) × (List (List (Int))) × Int × Int) => match r8236 with | (x8164, l8165, l8171, x8177, x8178) => some (Ctl.next ((x8164, wr (x6334 + 1), l8165, l8171, x8177, x8178))) else some (Ctl.out ((l6335, l6341, x6347, x6348))))
noncomputable def m_spec_l07DrawOk_bspecl00Src_s1 (l0_0 : List (Int)) (x34 : Int) (s596 : (List (Int)) × Int × (List (Int)) × Int × Int) : Option (Ctl ((List (Int)) × Int × (List (Int)) × Int × Int) ((List (Int)) × (List (Int)) × Int × Int)) :=
  match s596 with | (l566, x571, l572, x577, x578) => (bif decide (x571 < x34) then Option.bind (Option.bind (m_spec_l00Src_pick_bspecl00Src l0_0 x577 x578 2) fun y726 => Option.bind (apC l566 (([y726.1] : List (Int)))) fun _ => Option.bind (Option.bind (m_spec_l00Src_one_bspecl00Src l0_0 y726.2.1 y726.2.2 5) fun y782 => (bif y782.1 then Option.bind (geti (l566 ++ (([y726.1] : List (Int)))) x571) fun x788 => Option.bind (m_spec_l00Src_one_bspecl00Src l0_0 y782.2.1 y782.2.2 6) fun y790 => (bif y790.1 then some ((wr (1 - x788), y790.2.1, y790.2.2)) else some ((x788, y790.2.1, y790.2.2))) else some (((-1), y782.2.1, y782.2.2)))) fun (s780 : Int × Int × Int) => match s780 with | (x770, x771, x772) => Option.bind (apC l572 (([x770] : List (Int)))) fun _ => some ((l566 ++ (([y726.1] : List (Int))), l572 ++ (([x770] : List (Int))), x771, x772))) fun (s724 : (List (Int)) × (List (Int)) × Int × Int) => match s724 with | (l698, l703, x708, x709) => some (Ctl.next ((l698, wr (x571 + 1), l703, x708, x709))) else some (Ctl.out ((l566, l572, x577, x578))))
noncomputable def m_spec_l07DrawOk_bspecl00Src (l0_0 : List (Int)) (q0_1 : Int) (q0_2 : Int) : Option ((Int × (List (List (Int))) × (List (List (Int))) × (List (Int))) × (Int) × (Int)) :=
  Option.bind (m_spec_l00Src_pick_bspecl00Src l0_0 q0_1 q0_2 8) fun y9 => Option.bind (Option.bind (m_spec_l00Src_one_bspecl00Src l0_0 y9.2.1 y9.2.2 20) fun y44 => (bif y44.1 then some ((14, y44.2.1, y44.2.2)) else some ((y9.1, y44.2.1, y44.2.2)))) fun (s42 : Int × Int × Int) => match s42 with | (x34, x35, x36) => Option.bind (loopM (m_spec_l07DrawOk_bspecl00Src_s1 l0_0 x34) ((([] : List (Int)), 0, ([] : List (Int)), x35, x36))) fun (r593 : (List (Int)) × (List (Int)) × Int × Int) => match r593 with | (l539, l544, x549, x550) => Option.bind (m_spec_l00Src_one_bspecl00Src l0_0 x549 x550 4) fun y824 => Option.bind (loopM (m_spec_l07DrawOk_bspecl00Src_s4 l0_0 x34 l539) ((y824.1, 0, ([] : List (List (Int))), ([] : List (List (Int))), y824.2.1, y824.2.2))) fun (r6369 : (List (List (Int))) × (List (List (Int))) × Int × Int) => match r6369 with | (l6301, l6307, x6313, x6314) => some (((x34, l6301, l6307, l544), x6313, x6314))

noncomputable def m_spec_B10Wiring (l0 : List (Int)) : Option ((Int × (List (List (Int))) × (List (List (Int))) × (List (Int)))) :=
  Option.bind (m_spec_l00From l0) fun y8 => Option.bind (m_spec_l07DrawOk_bspecl00Src l0 y8.1 y8.2) fun y17 => (bif decide (y17.1.1 > 8) then some ((2, ([([0, 1] : List (Int))] : List (List (Int))), [], ([(-1), (-1)] : List (Int)))) else some ((y17.1.1, y17.1.2.1, y17.1.2.2.1, y17.1.2.2.2)))

def m_impl_in (p0 : Int) (p1 : Int) (p2 : Int) : Option ((Bool)) :=
  (bif decide (p0 ≥ p1) then some (decide (p0 ≤ p2)) else some false)

def m_cmp_isNaN_int64 (p0 : Int) : Option ((Bool)) :=
  some (p0 != p0)

def m_cmp_Compare_int64 (p0 : Int) (p1 : Int) : Option ((Int)) :=
  Option.bind (m_cmp_isNaN_int64 p0) fun y1 => Option.bind (m_cmp_isNaN_int64 p1) fun y5 => (bif y1 then (bif y5 then some 0 else some ((-1))) else (bif y5 then some 1 else (bif decide (p0 < p1) then some ((-1)) else (bif decide (p0 > p1) then some 1 else some 0))))

def m_slices_Compare_int64_int64_s1 (l0 : List (Int)) (l1 : List (Int)) (s46 : Int) : Option (Ctl (Int) (Sum (Unit) ((Int)))) :=
  (fun (x39 : Int) => (bif decide (x39 < (((l0).length : Int))) then Option.bind (geti l0 x39) fun x50 => (bif decide (x39 ≥ (((l1).length : Int))) then some (Ctl.out (Sum.inr 1)) else Option.bind (geti l1 x39) fun x53 => Option.bind (m_cmp_Compare_int64 x50 x53) fun y55 => (bif y55 != 0 then some (Ctl.out (Sum.inr y55)) else some (Ctl.next (wr (x39 + 1))))) else some (Ctl.out (Sum.inl (()))))) s46
noncomputable def m_slices_Compare_int64_int64 (l0 : List (Int)) (l1 : List (Int)) : Option ((Int)) :=
  Option.bind (loopM (m_slices_Compare_int64_int64_s1 l0 l1) 0) fun (r43 : Sum (Unit) ((Int))) => match r43 with | Sum.inl q64 => ((bif decide ((((l0).length : Int)) < (((l1).length : Int))) then some ((-1)) else some 0)) | Sum.inr v63 => some v63

def m_impl_ValidWiring_1 (l0 : List (Int)) : Option ((Bool)) :=
  Option.bind (geti l0 2) fun x2 => Option.bind (m_impl_in x2 0 1000) fun y4 => some (!y4)

def m_impl_ValidWiring_2 (p0 : Int) : Option ((Bool)) :=
  Option.bind (m_impl_in p0 ((-1)) 1) fun y1 => some (!y1)

noncomputable def m_impl_Wiring_pairsOk_bimplWiring_s1 (q0_0 : Int) (l1 : List (List (Int))) (p2 : Int) (s197 : Int) : Option (Ctl (Int) (Sum (Unit) ((Bool)))) :=
  (fun (x187 : Int) => (bif decide (x187 < (((l1).length : Int))) then Option.bind (geti l1 x187) fun x201 => (bif (((x201).length : Int)) != p2 then some (Ctl.out (Sum.inr false)) else Option.bind (geti x201 0) fun x252 => (bif decide (x252 < 0) then some (Ctl.out (Sum.inr false)) else Option.bind (geti x201 0) fun x256 => Option.bind (geti x201 1) fun x258 => (bif decide (x256 ≥ x258) then some (Ctl.out (Sum.inr false)) else Option.bind (geti x201 1) fun x262 => (bif decide (x262 ≥ q0_0) then some (Ctl.out (Sum.inr false)) else (bif decide (x187 > 0) then Option.bind (geti l1 (wr (x187 - 1))) fun x267 => Option.bind (m_slices_Compare_int64_int64 x267 x201) fun y275 => (bif decide (y275 ≥ 0) then some (Ctl.out (Sum.inr false)) else some (Ctl.next (wr (x187 + 1)))) else some (Ctl.next (wr (x187 + 1)))))))) else some (Ctl.out (Sum.inl (()))))) s197
noncomputable def m_impl_Wiring_pairsOk_bimplWiring (q0_0 : Int) (l0_1 : List (List (Int))) (l0_2 : List (List (Int))) (l0_3 : List (Int)) (l1 : List (List (Int))) (p2 : Int) : Option ((Bool)) :=
  Option.bind (loopM (m_impl_Wiring_pairsOk_bimplWiring_s1 q0_0 l1 p2) 0) fun (r194 : Sum (Unit) ((Bool))) => match r194 with | Sum.inl q284 => (some (decide ((((l1).length : Int)) ≤ 30))) | Sum.inr v283 => some v283

def m_slices_IndexFunc_int64_int64_impl_ValidWiring_1_s1 (l0 : List (List (Int))) (s44 : Int) : Option (Ctl (Int) (Sum (Unit) ((Int)))) :=
  (fun (x38 : Int) => (bif decide (x38 < (((l0).length : Int))) then Option.bind (geti l0 x38) fun x48 => Option.bind (m_impl_ValidWiring_1 x48) fun y56 => (bif y56 then some (Ctl.out (Sum.inr x38)) else some (Ctl.next (wr (x38 + 1)))) else some (Ctl.out (Sum.inl (()))))) s44
noncomputable def m_slices_IndexFunc_int64_int64_impl_ValidWiring_1 (l0 : List (List (Int))) : Option ((Int)) :=
  Option.bind (loopM (m_slices_IndexFunc_int64_int64_impl_ValidWiring_1_s1 l0) 0) fun (r41 : Sum (Unit) ((Int))) => match r41 with | Sum.inl q63 => (some ((-1))) | Sum.inr v62 => some v62

noncomputable def m_slices_ContainsFunc_int64_int64_impl_ValidWiring_1 (l0 : List (List (Int))) : Option ((Bool)) :=
  Option.bind (m_slices_IndexFunc_int64_int64_impl_ValidWiring_1 l0) fun y2 => some (decide (y2 ≥ 0))

def m_slices_IndexFunc_int64_int64_impl_ValidWiring_2_s1 (l0 : List (Int)) (s32 : Int) : Option (Ctl (Int) (Sum (Unit) ((Int)))) :=
  (fun (x26 : Int) => (bif decide (x26 < (((l0).length : Int))) then Option.bind (geti l0 x26) fun x36 => Option.bind (m_impl_ValidWiring_2 x36) fun y38 => (bif y38 then some (Ctl.out (Sum.inr x26)) else some (Ctl.next (wr (x26 + 1)))) else some (Ctl.out (Sum.inl (()))))) s32
noncomputable def m_slices_IndexFunc_int64_int64_impl_ValidWiring_2 (l0 : List (Int)) : Option ((Int)) :=
  Option.bind (loopM (m_slices_IndexFunc_int64_int64_impl_ValidWiring_2_s1 l0) 0) fun (r29 : Sum (Unit) ((Int))) => match r29 with | Sum.inl q45 => (some ((-1))) | Sum.inr v44 => some v44

noncomputable def m_slices_ContainsFunc_int64_int64_impl_ValidWiring_2 (l0 : List (Int)) : Option ((Bool)) :=
  Option.bind (m_slices_IndexFunc_int64_int64_impl_ValidWiring_2 l0) fun y2 => some (decide (y2 ≥ 0))

noncomputable def m_impl_ValidWiring (p0_0 : Int) (l0_1 : List (List (Int))) (l0_2 : List (List (Int))) (l0_3 : List (Int)) : Option ((Bool)) :=
  Option.bind (m_impl_in p0_0 0 14) fun y10 => (bif !y10 then some false else (bif (((l0_3).length : Int)) != p0_0 then some false else Option.bind (m_impl_Wiring_pairsOk_bimplWiring p0_0 l0_1 l0_2 l0_3 l0_1 2) fun y18 => (bif !y18 then some false else Option.bind (m_impl_Wiring_pairsOk_bimplWiring p0_0 l0_1 l0_2 l0_3 l0_2 3) fun y24 => (bif !y24 then some false else Option.bind (m_slices_ContainsFunc_int64_int64_impl_ValidWiring_1 l0_2) fun y30 => (bif y30 then some false else Option.bind (m_slices_ContainsFunc_int64_int64_impl_ValidWiring_2 l0_3) fun y35 => some (!y35))))))

noncomputable def m_impl_Wiring_crossed_bimplWiring_s2 (l394 : List (List (Int))) (s666 : Int × (List (List (Int)))) : Option (Ctl (Int × (List (List (Int)))) ((List (List (Int))))) :=
  match s666 with | (x659, l660) => (bif decide (x659 < (((l394).length : Int))) then Option.bind (geti l660 x659) fun x670 => Option.bind (m_slices_Sort_int_int x670) fun y683 => some (Ctl.next ((wr (x659 + 1), l660.set (Int.toNat x659) y683))) else some (Ctl.out l660))
def m_impl_Wiring_crossed_bimplWiring_s1 (l0_1 : List (List (Int))) (s418 : (List (List (Int))) × Int) : Option (Ctl ((List (List (Int))) × Int) ((List (List (Int))))) :=
  match s418 with | (l404, x410) => (bif decide (x410 < (((l0_1).length : Int))) then Option.bind (geti l0_1 x410) fun x422 => Option.bind (geti x422 0) fun x480 => Option.bind (geti l404 x480) fun x482 => Option.bind (geti x422 1) fun x492 => Option.bind (apC x482 (([x492] : List (Int)))) fun _ => Option.bind (geti (l404.set (Int.toNat x480) (x482 ++ (([x492] : List (Int))))) x492) fun x568 => Option.bind (apC x568 (([x480] : List (Int)))) fun _ => some (Ctl.next (((l404.set (Int.toNat x480) (x482 ++ (([x492] : List (Int))))).set (Int.toNat x492) (x568 ++ (([x480] : List (Int)))), wr (x410 + 1)))) else some (Ctl.out l404))
noncomputable def m_impl_Wiring_crossed_bimplWiring (q0_0 : Int) (l0_1 : List (List (Int))) (l0_2 : List (List (Int))) (l0_3 : List (Int)) : Option ((List (List (Int)))) :=
  Option.bind (mkC q0_0) fun _ => Option.bind (loopM (m_impl_Wiring_crossed_bimplWiring_s1 l0_1) ((List.replicate (Int.toNat q0_0) ([] : List (Int)), 0))) fun (r415 : (List (List (Int)))) => (fun (l394 : List (List (Int))) => Option.bind (loopM (m_impl_Wiring_crossed_bimplWiring_s2 l394) ((0, l394))) fun (r663 : (List (List (Int)))) => (fun (l655 : List (List (Int))) => some l655) r663) r415

def m_impl_Wiring_cost_bimplWiring_s1 (l0_2 : List (List (Int))) (l1 : List (Int)) (s190 : Int × Int) : Option (Ctl (Int × Int) (Int)) :=
  match s190 with | (x182, x183) => (bif decide (x183 < (((l0_2).length : Int))) then Option.bind (Option.bind (geti l0_2 x183) fun x238 => Option.bind (geti x238 0) fun x264 => Option.bind (geti l1 x264) fun x266 => Option.bind (geti x238 1) fun x268 => Option.bind (geti l1 x268) fun x270 => (bif x266 != x270 then Option.bind (geti x238 2) fun x273 => some (wr (x182 + x273)) else some x182)) fun (s236 : Int) => (fun (x232 : Int) => some (Ctl.next ((x232, wr (x183 + 1))))) s236 else some (Ctl.out x182))
noncomputable def m_impl_Wiring_cost_bimplWiring (q0_0 : Int) (l0_1 : List (List (Int))) (l0_2 : List (List (Int))) (l0_3 : List (Int)) (l1 : List (Int)) : Option ((Int)) :=
  Option.bind (loopM (m_impl_Wiring_cost_bimplWiring_s1 l0_2 l1) ((0, 0))) fun (r187 : Int) => (fun (x179 : Int) => some x179) r187

def m_impl_Wiring_best_1_1_bint_bint64_bint64 (p0 : Int) (q1_0 : Int) (l2_0 : List (Int)) (q3_0 : Int) : Option ((Bool)) :=
  (bif decide (p0 < q1_0) then Option.bind (geti l2_0 p0) fun x21 => some (x21 == q3_0) else some false)

def m_slices_IndexFunc_int_int_impl_Wiring_best_1_1_bint_bint64_bint64_s1 (l0 : List (Int)) (q1_0_0 : Int) (l1_1_0 : List (Int)) (q1_2_0 : Int) (s48 : Int) : Option (Ctl (Int) (Sum (Unit) ((Int)))) :=
  (fun (x38 : Int) => (bif decide (x38 < (((l0).length : Int))) then Option.bind (geti l0 x38) fun x52 => Option.bind (m_impl_Wiring_best_1_1_bint_bint64_bint64 x52 q1_0_0 l1_1_0 q1_2_0) fun y54 => (bif y54 then some (Ctl.out (Sum.inr x38)) else some (Ctl.next (wr (x38 + 1)))) else some (Ctl.out (Sum.inl (()))))) s48
noncomputable def m_slices_IndexFunc_int_int_impl_Wiring_best_1_1_bint_bint64_bint64 (l0 : List (Int)) (q1_0_0 : Int) (l1_1_0 : List (Int)) (q1_2_0 : Int) : Option ((Int)) :=
  Option.bind (loopM (m_slices_IndexFunc_int_int_impl_Wiring_best_1_1_bint_bint64_bint64_s1 l0 q1_0_0 l1_1_0 q1_2_0) 0) fun (r45 : Sum (Unit) ((Int))) => match r45 with | Sum.inl q61 => (some ((-1))) | Sum.inr v60 => some v60

noncomputable def m_slices_ContainsFunc_int_int_impl_Wiring_best_1_1_bint_bint64_bint64 (l0 : List (Int)) (q1_0_0 : Int) (l1_1_0 : List (Int)) (q1_2_0 : Int) : Option ((Bool)) :=
  Option.bind (m_slices_IndexFunc_int_int_impl_Wiring_best_1_1_bint_bint64_bint64 l0 q1_0_0 l1_1_0 q1_2_0) fun y6 => some (decide (y6 ≥ 0))

noncomputable def m_impl_Wiring_best_1_bint64_bimplWiring_bimplWiring_bint64_bint64_bint64_bimplgraph_bfunc_self_s1 (R : (List (Int)) → (Int) → (List (List (Int))) → (List (List (Int))) → (List (Int)) → (List (Int)) → (Bool) → (Int) → (Int) → (List (List (Int))) → Option ((Int) × (Int) × (List (Int)) × (List (Int)) × (Bool))) (l0_0 : List (Int)) (q1_0_0 : Int) (l1_0_1 : List (List (Int))) (l1_0_2 : List (List (Int))) (l1_0_3 : List (Int)) (l5_0 : List (List (Int))) (s1730 : Int × Int × Int × (List (Int)) × (List (Int)) × Bool) : Option (Ctl (Int × Int × Int × (List (Int)) × (List (Int)) × Bool) (Int × Int × (List (Int)) × (List (Int)) × Bool)) :=
  match s1730 with | (x1661, x1663, x1664, l1665, l1670, z1675) => (bif decide (x1661 < 2) then Option.bind (Option.bind (geti l1_0_3 (((l0_0).length : Int))) fun x2123 => (bif decide (x2123 ≥ 0) then Option.bind (geti l1_0_3 (((l0_0).length : Int))) fun x2126 => (bif x2126 != x1661 then some ((x1663, x1664, l1665, l1670, z1675)) else Option.bind (geti l5_0 (((l0_0).length : Int))) fun x2130 => Option.bind (m_slices_ContainsFunc_int_int_impl_Wiring_best_1_1_bint_bint64_bint64 x2130 (((l0_0).length : Int)) l1665 x1661) fun y2138 => (bif !y2138 then Option.bind (apC l1665 (([x1661] : List (Int)))) fun _ => Option.bind (R (l1665 ++ (([x1661] : List (Int)))) q1_0_0 l1_0_1 l1_0_2 l1_0_3 l1670 z1675 x1663 x1664 l5_0) fun y2184 => Option.bind (slci y2184.2.2.1 0 (((l0_0).length : Int))) fun _ => some ((y2184.1, y2184.2.1, y2184.2.2.1.take (Int.toNat (((l0_0).length : Int))), y2184.2.2.2.1, y2184.2.2.2.2)) else some ((x1663, x1664, l1665, l1670, z1675)))) else Option.bind (geti l5_0 (((l0_0).length : Int))) fun x2248 => Option.bind (m_slices_ContainsFunc_int_int_impl_Wiring_best_1_1_bint_bint64_bint64 x2248 (((l0_0).length : Int)) l1665 x1661) fun y2256 => (bif !y2256 then Option.bind (apC l1665 (([x1661] : List (Int)))) fun _ => Option.bind (R (l1665 ++ (([x1661] : List (Int)))) q1_0_0 l1_0_1 l1_0_2 l1_0_3 l1670 z1675 x1663 x1664 l5_0) fun y2302 => Option.bind (slci y2302.2.2.1 0 (((l0_0).length : Int))) fun _ => some ((y2302.1, y2302.2.1, y2302.2.2.1.take (Int.toNat (((l0_0).length : Int))), y2302.2.2.2.1, y2302.2.2.2.2)) else some ((x1663, x1664, l1665, l1670, z1675))))) fun (s2080 : Int × Int × (List (Int)) × (List (Int)) × Bool) => match s2080 with | (x2018, x2019, l2020, l2025, z2030) => some (Ctl.next ((wr (x1661 + 1), x2018, x2019, l2020, l2025, z2030))) else some (Ctl.out ((x1663, x1664, l1665, l1670, z1675))))
noncomputable def m_impl_Wiring_best_1_bint64_bimplWiring_bimplWiring_bint64_bint64_bint64_bimplgraph_bfunc_self_body (R : (List (Int)) → (Int) → (List (List (Int))) → (List (List (Int))) → (List (Int)) → (List (Int)) → (Bool) → (Int) → (Int) → (List (List (Int))) → Option ((Int) × (Int) × (List (Int)) × (List (Int)) × (Bool))) (l0_0 : List (Int)) (q1_0_0 : Int) (l1_0_1 : List (List (Int))) (l1_0_2 : List (List (Int))) (l1_0_3 : List (Int)) (l2_0 : List (Int)) (z2_0 : Bool) (q3_0 : Int) (q4_0 : Int) (l5_0 : List (List (Int))) : Option ((Int) × (Int) × (List (Int)) × (List (Int)) × (Bool)) :=
  (bif (((l0_0).length : Int)) == q1_0_0 then Option.bind (m_impl_Wiring_cost_bimplWiring q1_0_0 l1_0_1 l1_0_2 l1_0_3 l0_0) fun y61 => Option.bind ((bif z2_0 then Option.bind (apC (([] : List (Int))) l0_0) fun _ => some ((y61, 1, (([] : List (Int))) ++ l0_0, false)) else (bif decide (y61 < q3_0) then Option.bind (apC (([] : List (Int))) l0_0) fun _ => some ((y61, 1, (([] : List (Int))) ++ l0_0, false)) else (bif y61 == q3_0 then some ((q3_0, wr (q4_0 + 1), l2_0, z2_0)) else some ((q3_0, q4_0, l2_0, z2_0)))))) fun (s160 : Int × Int × (List (Int)) × Bool) => match s160 with | (x138, x139, l140, z145) => some ((x138, x139, l0_0, l140, z145)) else Option.bind (loopM (m_impl_Wiring_best_1_bint64_bimplWiring_bimplWiring_bint64_bint64_bint64_bimplgraph_bfunc_self_s1 R l0_0 q1_0_0 l1_0_1 l1_0_2 l1_0_3 l5_0) ((0, q3_0, q4_0, l0_0, l2_0, z2_0))) fun (r1727 : Int × Int × (List (Int)) × (List (Int)) × Bool) => match r1727 with | (x1627, x1628, l1629, l1634, z1639) => some ((x1627, x1628, l1629, l1634, z1639)))
noncomputable def m_impl_Wiring_best_1_bint64_bimplWiring_bimplWiring_bint64_bint64_bint64_bimplgraph_bfunc_self : Nat → (List (Int)) → (Int) → (List (List (Int))) → (List (List (Int))) → (List (Int)) → (List (Int)) → (Bool) → (Int) → (Int) → (List (List (Int))) → Option ((Int) × (Int) × (List (Int)) × (List (Int)) × (Bool))
  | 0, _, _, _, _, _, _, _, _, _, _ => none
  | n + 1, l0_0, q1_0_0, l1_0_1, l1_0_2, l1_0_3, l2_0, z2_0, q3_0, q4_0, l5_0 => m_impl_Wiring_best_1_bint64_bimplWiring_bimplWiring_bint64_bint64_bint64_bimplgraph_bfunc_self_body (m_impl_Wiring_best_1_bint64_bimplWiring_bimplWiring_bint64_bint64_bint64_bimplgraph_bfunc_self n) l0_0 q1_0_0 l1_0_1 l1_0_2 l1_0_3 l2_0 z2_0 q3_0 q4_0 l5_0

noncomputable def m_impl_Wiring_best_bimplWiring (q0_0 : Int) (l0_1 : List (List (Int))) (l0_2 : List (List (Int))) (l0_3 : List (Int)) : Option ((List (Int)) × (Int) × (Int)) :=
  Option.bind (m_impl_Wiring_crossed_bimplWiring q0_0 l0_1 l0_2 l0_3) fun y68 => Option.bind (m_impl_Wiring_best_1_bint64_bimplWiring_bimplWiring_bint64_bint64_bint64_bimplgraph_bfunc_self 64 (([] : List (Int))) q0_0 l0_1 l0_2 l0_3 (([] : List (Int))) true 0 0 y68) fun y118 => some ((y118.2.2.2.1, y118.1, y118.2.1))

noncomputable def m_impl_FewestVias (p0_0 : Int) (l0_1 : List (List (Int))) (l0_2 : List (List (Int))) (l0_3 : List (Int)) : Option ((List (Int)) × (Int) × (Bool)) :=
  Option.bind (m_impl_ValidWiring p0_0 l0_1 l0_2 l0_3) fun y10 => (bif !y10 then some (([], 0, false)) else Option.bind (m_impl_Wiring_best_bimplWiring p0_0 l0_1 l0_2 l0_3) fun y15 => some ((y15.1, y15.2.1, decide (y15.2.2 > 0))))

def m_impl_graph_twice_s4 (l0 : List (List (Int))) (x590 : Int) (x602 : List (Int)) (s799 : (List (List (Int))) × Int) : Option (Ctl ((List (List (Int))) × Int) ((List (List (Int))))) :=
  match s799 with | (l784, x790) => (bif decide (x790 < (((x602).length : Int))) then Option.bind (geti x602 x790) fun x803 => Option.bind (geti l784 x590) fun x805 => Option.bind (apC x805 (([wr (x803 + (((l0).length : Int)))] : List (Int)))) fun _ => Option.bind (geti (l784.set (Int.toNat x590) (x805 ++ (([wr (x803 + (((l0).length : Int)))] : List (Int))))) (wr (x590 + (((l0).length : Int))))) fun x839 => Option.bind (apC x839 (([x803] : List (Int)))) fun _ => some (Ctl.next (((l784.set (Int.toNat x590) (x805 ++ (([wr (x803 + (((l0).length : Int)))] : List (Int))))).set (Int.toNat (wr (x590 + (((l0).length : Int))))) (x839 ++ (([x803] : List (Int)))), wr (x790 + 1)))) else some (Ctl.out l784))
noncomputable def m_impl_graph_twice_s3 (l0 : List (List (Int))) (s598 : (List (List (Int))) × Int) : Option (Ctl ((List (List (Int))) × Int) ((List (List (Int))))) :=
  match s598 with | (l584, x590) => (bif decide (x590 < (((l0).length : Int))) then Option.bind (geti l0 x590) fun x602 => Option.bind (loopM (m_impl_graph_twice_s4 l0 x590 x602) ((l584, 0))) fun (r796 : (List (List (Int)))) => (fun (l773 : List (List (Int))) => some (Ctl.next ((l773, wr (x590 + 1))))) r796 else some (Ctl.out l584))
noncomputable def m_impl_graph_twice (l0 : List (List (Int))) : Option ((List (List (Int)))) :=
  Option.bind (mkC (wr (2 * (((l0).length : Int))))) fun _ => Option.bind (loopM (m_impl_graph_twice_s3 l0) ((List.replicate (Int.toNat (wr (2 * (((l0).length : Int))))) ([] : List (Int)), 0))) fun (r595 : (List (List (Int)))) => (fun (l574 : List (List (Int))) => some l574) r595

def m_slices_Index_int_int_s1 (l0 : List (Int)) (p1 : Int) (s24 : Int) : Option (Ctl (Int) (Sum (Unit) ((Int)))) :=
  (fun (x18 : Int) => (bif decide (x18 < (((l0).length : Int))) then Option.bind (geti l0 x18) fun x28 => (bif p1 == x28 then some (Ctl.out (Sum.inr x18)) else some (Ctl.next (wr (x18 + 1)))) else some (Ctl.out (Sum.inl (()))))) s24
noncomputable def m_slices_Index_int_int (l0 : List (Int)) (p1 : Int) : Option ((Int)) :=
  Option.bind (loopM (m_slices_Index_int_int_s1 l0 p1) 0) fun (r21 : Sum (Unit) ((Int))) => match r21 with | Sum.inl q33 => (some ((-1))) | Sum.inr v32 => some v32

noncomputable def m_slices_Contains_int_int (l0 : List (Int)) (p1 : Int) : Option ((Bool)) :=
  Option.bind (m_slices_Index_int_int l0 p1) fun y2 => some (decide (y2 ≥ 0))

def m_math_bits_Mul64 (p0 : Int) (p1 : Int) : Option ((Int) × (Int)) :=
  some ((wu ((wu ((wu ((shrU p0 32) * (shrU p1 32))) + (shrU (wu ((wu ((shrU p0 32) * (andU p1 4294967295))) + (shrU (wu ((andU p0 4294967295) * (andU p1 4294967295))) 32))) 32))) + (shrU (wu ((andU (wu ((wu ((shrU p0 32) * (andU p1 4294967295))) + (shrU (wu ((andU p0 4294967295) * (andU p1 4294967295))) 32))) 4294967295) + (wu ((andU p0 4294967295) * (shrU p1 32))))) 32)), wu (p0 * p1)))

def m_math_bits_Mul (p0 : Int) (p1 : Int) : Option ((Int) × (Int)) :=
  Option.bind (m_math_bits_Mul64 p0 p1) fun y1 => some ((y1.1, y1.2))

noncomputable def m_impl_CountBest (p0_0 : Int) (l0_1 : List (List (Int))) (l0_2 : List (List (Int))) (l0_3 : List (Int)) : Option ((Int) × (Bool)) :=
  Option.bind (m_impl_ValidWiring p0_0 l0_1 l0_2 l0_3) fun y10 => (bif !y10 then some ((0, false)) else Option.bind (m_impl_Wiring_best_bimplWiring p0_0 l0_1 l0_2 l0_3) fun y15 => some ((y15.2.2, true)))

def m_spec_l00In (p0 : Int) (p1 : Int) (p2 : Int) : Option ((Bool)) :=
  (bif decide (p0 ≥ p1) then some (decide (p0 ≤ p2)) else some false)

def m_spec_l03Less_s1 (l0 : List (Int)) (l1 : List (Int)) (s94 : Int) : Option (Ctl (Int) (Sum (Unit) ((Bool)))) :=
  (fun (x87 : Int) => (bif decide (x87 < (((l0).length : Int))) then (bif decide (x87 < (((l1).length : Int))) then Option.bind (geti l0 x87) fun x111 => Option.bind (geti l1 x87) fun x113 => (bif x111 != x113 then Option.bind (geti l0 x87) fun x128 => Option.bind (geti l1 x87) fun x130 => some (Ctl.out (Sum.inr (decide (x128 < x130)))) else some (Ctl.next (wr (x87 + 1)))) else some (Ctl.out (Sum.inl (())))) else some (Ctl.out (Sum.inl (()))))) s94
noncomputable def m_spec_l03Less (l0 : List (Int)) (l1 : List (Int)) : Option ((Bool)) :=
  Option.bind (loopM (m_spec_l03Less_s1 l0 l1) 0) fun (r91 : Sum (Unit) ((Bool))) => match r91 with | Sum.inl q136 => (some (decide ((((l0).length : Int)) < (((l1).length : Int))))) | Sum.inr v135 => some v135

noncomputable def m_spec_l07Lists_s1 (l0 : List (List (Int))) (p1 : Int) (p2 : Int) (s215 : Int) : Option (Ctl (Int) (Sum (Unit) ((Bool)))) :=
  (fun (x209 : Int) => (bif decide (x209 < (((l0).length : Int))) then Option.bind (geti l0 x209) fun x219 => (bif (((x219).length : Int)) != p2 then some (Ctl.out (Sum.inr false)) else Option.bind (geti x219 0) fun x261 => Option.bind (m_spec_l00In x261 0 (wr (p1 - 1))) fun y263 => (bif !y263 then some (Ctl.out (Sum.inr false)) else Option.bind (geti x219 1) fun x269 => Option.bind (geti x219 0) fun x271 => Option.bind (m_spec_l00In x269 (wr (x271 + 1)) (wr (p1 - 1))) fun y273 => (bif !y273 then some (Ctl.out (Sum.inr false)) else (bif p2 == 3 then Option.bind (geti x219 2) fun x280 => Option.bind (m_spec_l00In x280 0 1000) fun y282 => (bif !y282 then some (Ctl.out (Sum.inr false)) else (bif decide (x209 > 0) then Option.bind (geti l0 (wr (x209 - 1))) fun x289 => Option.bind (m_spec_l03Less x289 x219) fun y297 => (bif !y297 then some (Ctl.out (Sum.inr false)) else some (Ctl.next (wr (x209 + 1)))) else some (Ctl.next (wr (x209 + 1))))) else (bif decide (x209 > 0) then Option.bind (geti l0 (wr (x209 - 1))) fun x304 => Option.bind (m_spec_l03Less x304 x219) fun y312 => (bif !y312 then some (Ctl.out (Sum.inr false)) else some (Ctl.next (wr (x209 + 1)))) else some (Ctl.next (wr (x209 + 1)))))))) else some (Ctl.out (Sum.inl (()))))) s215
noncomputable def m_spec_l07Lists (l0 : List (List (Int))) (p1 : Int) (p2 : Int) : Option ((Bool)) :=
  Option.bind (loopM (m_spec_l07Lists_s1 l0 p1 p2) 0) fun (r212 : Sum (Unit) ((Bool))) => match r212 with | Sum.inl q319 => (some (decide ((((l0).length : Int)) ≤ 30))) | Sum.inr v318 => some v318

noncomputable def m_spec_l07Is_bimplWiring_s1 (l0_3 : List (Int)) (s71 : Int) : Option (Ctl (Int) (Sum (Unit) ((Bool)))) :=
  (fun (x62 : Int) => (bif decide (x62 < (((l0_3).length : Int))) then Option.bind (geti l0_3 x62) fun x75 => Option.bind (m_spec_l00In x75 ((-1)) 1) fun y77 => (bif !y77 then some (Ctl.out (Sum.inr false)) else some (Ctl.next (wr (x62 + 1)))) else some (Ctl.out (Sum.inl (()))))) s71
noncomputable def m_spec_l07Is_bimplWiring (q0_0 : Int) (l0_1 : List (List (Int))) (l0_2 : List (List (Int))) (l0_3 : List (Int)) : Option ((Bool)) :=
  Option.bind (m_spec_l00In q0_0 0 14) fun y22 => (bif !y22 then some false else (bif (((l0_3).length : Int)) != q0_0 then some false else Option.bind (loopM (m_spec_l07Is_bimplWiring_s1 l0_3) 0) fun (r68 : Sum (Unit) ((Bool))) => match r68 with | Sum.inl q114 => (Option.bind (m_spec_l07Lists l0_1 q0_0 2) fun y104 => (bif y104 then Option.bind (m_spec_l07Lists l0_2 q0_0 3) fun y109 => some y109 else some false)) | Sum.inr v113 => some v113))

def m_spec_l07Layering_bimplWiring_s2 (l0_1 : List (List (Int))) (l1 : List (Int)) (s339 : Int) : Option (Ctl (Int) (Sum (Unit) ((Bool)))) :=
  (fun (x329 : Int) => (bif decide (x329 < (((l0_1).length : Int))) then Option.bind (geti l0_1 x329) fun x381 => Option.bind (geti x381 0) fun x389 => Option.bind (geti l1 x389) fun x391 => Option.bind (geti l0_1 x329) fun x393 => Option.bind (geti x393 1) fun x401 => Option.bind (geti l1 x401) fun x403 => (bif x391 == x403 then some (Ctl.out (Sum.inr false)) else some (Ctl.next (wr (x329 + 1)))) else some (Ctl.out (Sum.inl (()))))) s339
noncomputable def m_spec_l07Layering_bimplWiring_s1 (l0_3 : List (Int)) (l1 : List (Int)) (s132 : Int) : Option (Ctl (Int) (Sum (Unit) ((Bool)))) :=
  (fun (x122 : Int) => (bif decide (x122 < (((l1).length : Int))) then Option.bind (geti l1 x122) fun x164 => Option.bind (m_spec_l00In x164 0 1) fun y166 => (bif !y166 then some (Ctl.out (Sum.inr false)) else Option.bind (geti l0_3 x122) fun x172 => (bif decide (x172 ≥ 0) then Option.bind (geti l0_3 x122) fun x175 => Option.bind (geti l1 x122) fun x177 => (bif x175 != x177 then some (Ctl.out (Sum.inr false)) else some (Ctl.next (wr (x122 + 1)))) else some (Ctl.next (wr (x122 + 1))))) else some (Ctl.out (Sum.inl (()))))) s132
noncomputable def m_spec_l07Layering_bimplWiring (q0_0 : Int) (l0_1 : List (List (Int))) (l0_2 : List (List (Int))) (l0_3 : List (Int)) (l1 : List (Int)) : Option ((Bool)) :=
  (bif (((l1).length : Int)) != q0_0 then some false else Option.bind (loopM (m_spec_l07Layering_bimplWiring_s1 l0_3 l1) 0) fun (r129 : Sum (Unit) ((Bool))) => match r129 with | Sum.inl q411 => (Option.bind (loopM (m_spec_l07Layering_bimplWiring_s2 l0_1 l1) 0) fun (r336 : Sum (Unit) ((Bool))) => match r336 with | Sum.inl q409 => (some true) | Sum.inr v408 => some v408) | Sum.inr v410 => some v410)

def m_spec_l07Cost_bimplWiring_s1 (l0_2 : List (List (Int))) (l1 : List (Int)) (s353 : Int × Int) : Option (Ctl (Int × Int) (Int)) :=
  match s353 with | (x342, x343) => (bif decide (x343 < (((l0_2).length : Int))) then Option.bind (Option.bind (geti l0_2 x343) fun x479 => Option.bind (geti x479 0) fun x487 => Option.bind (geti l1 x487) fun x489 => Option.bind (geti l0_2 x343) fun x491 => Option.bind (geti x491 1) fun x499 => Option.bind (geti l1 x499) fun x501 => (bif x489 != x501 then Option.bind (geti l0_2 x343) fun x505 => Option.bind (geti x505 2) fun x513 => some (wr (x342 + x513)) else some x342)) fun (s439 : Int) => (fun (x432 : Int) => some (Ctl.next ((x432, wr (x343 + 1))))) s439 else some (Ctl.out x342))
noncomputable def m_spec_l07Cost_bimplWiring (q0_0 : Int) (l0_1 : List (List (Int))) (l0_2 : List (List (Int))) (l0_3 : List (Int)) (l1 : List (Int)) : Option ((Int)) :=
  Option.bind (loopM (m_spec_l07Cost_bimplWiring_s1 l0_2 l1) ((0, 0))) fun (r350 : Int) => (fun (x339 : Int) => some x339) r350

noncomputable def m_spec_CostOf (p0_0 : Int) (l0_1 : List (List (Int))) (l0_2 : List (List (Int))) (l0_3 : List (Int)) (l1 : List (Int)) : Option ((Int) × (Bool)) :=
  Option.bind (m_spec_l07Is_bimplWiring p0_0 l0_1 l0_2 l0_3) fun y11 => (bif !y11 then some ((0, false)) else Option.bind (m_spec_l07Layering_bimplWiring p0_0 l0_1 l0_2 l0_3 l1) fun y16 => (bif !y16 then some ((0, false)) else Option.bind (m_spec_l07Cost_bimplWiring p0_0 l0_1 l0_2 l0_3 l1) fun y21 => some ((y21, true))))

def m_impl_IsLayering_1_bint64 (l0 : List (Int)) (l1_0 : List (Int)) : Option ((Bool)) :=
  Option.bind (geti l0 0) fun x22 => Option.bind (geti l1_0 x22) fun x24 => Option.bind (geti l0 1) fun x26 => Option.bind (geti l1_0 x26) fun x28 => some (x24 == x28)

def m_slices_IndexFunc_int64_int64_impl_IsLayering_1_bint64_s1 (l0 : List (List (Int))) (l1_0_0 : List (Int)) (s52 : Int) : Option (Ctl (Int) (Sum (Unit) ((Int)))) :=
  (fun (x44 : Int) => (bif decide (x44 < (((l0).length : Int))) then Option.bind (geti l0 x44) fun x56 => Option.bind (m_impl_IsLayering_1_bint64 x56 l1_0_0) fun y64 => (bif y64 then some (Ctl.out (Sum.inr x44)) else some (Ctl.next (wr (x44 + 1)))) else some (Ctl.out (Sum.inl (()))))) s52
noncomputable def m_slices_IndexFunc_int64_int64_impl_IsLayering_1_bint64 (l0 : List (List (Int))) (l1_0_0 : List (Int)) : Option ((Int)) :=
  Option.bind (loopM (m_slices_IndexFunc_int64_int64_impl_IsLayering_1_bint64_s1 l0 l1_0_0) 0) fun (r49 : Sum (Unit) ((Int))) => match r49 with | Sum.inl q71 => (some ((-1))) | Sum.inr v70 => some v70

noncomputable def m_slices_ContainsFunc_int64_int64_impl_IsLayering_1_bint64 (l0 : List (List (Int))) (l1_0_0 : List (Int)) : Option ((Bool)) :=
  Option.bind (m_slices_IndexFunc_int64_int64_impl_IsLayering_1_bint64 l0 l1_0_0) fun y4 => some (decide (y4 ≥ 0))

noncomputable def m_impl_IsLayering_s1 (l0_3 : List (Int)) (l1 : List (Int)) (s93 : Int) : Option (Ctl (Int) (Sum (Unit) ((Bool)))) :=
  (fun (x82 : Int) => (bif decide (x82 < (((l1).length : Int))) then Option.bind (geti l1 x82) fun x97 => Option.bind (m_impl_in x97 0 1) fun y99 => (bif !y99 then some (Ctl.out (Sum.inr false)) else Option.bind (geti l0_3 x82) fun x105 => (bif decide (x105 ≥ 0) then Option.bind (geti l0_3 x82) fun x108 => (bif x108 != x97 then some (Ctl.out (Sum.inr false)) else some (Ctl.next (wr (x82 + 1)))) else some (Ctl.next (wr (x82 + 1))))) else some (Ctl.out (Sum.inl (()))))) s93
noncomputable def m_impl_IsLayering (p0_0 : Int) (l0_1 : List (List (Int))) (l0_2 : List (List (Int))) (l0_3 : List (Int)) (l1 : List (Int)) : Option ((Bool)) :=
  Option.bind (m_impl_ValidWiring p0_0 l0_1 l0_2 l0_3) fun y18 => (bif !y18 then some false else (bif (((l1).length : Int)) != p0_0 then some false else Option.bind (loopM (m_impl_IsLayering_s1 l0_3 l1) 0) fun (r90 : Sum (Unit) ((Bool))) => match r90 with | Sum.inl q119 => (Option.bind (m_slices_ContainsFunc_int64_int64_impl_IsLayering_1_bint64 l0_1 l1) fun y114 => some (!y114)) | Sum.inr v118 => some v118))

def m_laws_b10Nums_s1 (l0 : List (Int)) (l1 : List (Int)) (s57 : Int) : Option (Ctl (Int) (Sum (Unit) ((Bool)))) :=
  (fun (x50 : Int) => (bif decide (x50 < (((l0).length : Int))) then Option.bind (geti l0 x50) fun x73 => Option.bind (geti l1 x50) fun x75 => (bif x73 != x75 then some (Ctl.out (Sum.inr false)) else some (Ctl.next (wr (x50 + 1)))) else some (Ctl.out (Sum.inl (()))))) s57
noncomputable def m_laws_b10Nums (l0 : List (Int)) (l1 : List (Int)) : Option ((Bool)) :=
  (bif (((l0).length : Int)) != (((l1).length : Int)) then some false else Option.bind (loopM (m_laws_b10Nums_s1 l0 l1) 0) fun (r54 : Sum (Unit) ((Bool))) => match r54 with | Sum.inl q80 => (some true) | Sum.inr v79 => some v79)

def m_laws_b10Has_s1 (l0 : List (Int)) (p1 : Int) (s24 : Int) : Option (Ctl (Int) (Sum (Unit) ((Bool)))) :=
  (fun (x18 : Int) => (bif decide (x18 < (((l0).length : Int))) then Option.bind (geti l0 x18) fun x28 => (bif x28 == p1 then some (Ctl.out (Sum.inr true)) else some (Ctl.next (wr (x18 + 1)))) else some (Ctl.out (Sum.inl (()))))) s24
noncomputable def m_laws_b10Has (l0 : List (Int)) (p1 : Int) : Option ((Bool)) :=
  Option.bind (loopM (m_laws_b10Has_s1 l0 p1) 0) fun (r21 : Sum (Unit) ((Bool))) => match r21 with | Sum.inl q33 => (some false) | Sum.inr v32 => some v32

def m_laws_r8Long (l0 : List (Int)) (l1 : List (Int)) : Option ((Bool)) :=
  (bif decide ((((l0).length : Int)) > 48) then some true else some (decide ((((l1).length : Int)) > 48)))

noncomputable def m_spec_R8Pins_s1 (l0 : List (Int)) (s161 : (List (Int × Int)) × Int × Int × Int) : Option (Ctl ((List (Int × Int)) × Int × Int × Int) ((List (Int × Int)))) :=
  match s161 with | (l144, x149, x150, x151) => (bif decide (x149 > 0) then Option.bind (m_spec_l00Src_pick_bspecl00Src l0 x150 x151 12) fun y165 => Option.bind (m_spec_l00Src_pick_bspecl00Src l0 y165.2.1 y165.2.2 12) fun y181 => Option.bind (apC l144 (([(y165.1, y181.1)] : List (Int × Int)))) fun _ => some (Ctl.next ((l144 ++ (([(y165.1, y181.1)] : List (Int × Int))), wr (x149 - 1), y181.2.1, y181.2.2))) else some (Ctl.out l144))
noncomputable def m_spec_R8Pins (l0 : List (Int)) (p1 : Int) : Option ((List (Int × Int))) :=
  Option.bind (m_spec_l00From l0) fun y2 => Option.bind (m_spec_l00Src_pick_bspecl00Src l0 y2.1 y2.2 (wr (p1 - 1))) fun y17 => Option.bind (loopM (m_spec_R8Pins_s1 l0) ((([] : List (Int × Int)), wr (2 + y17.1), y17.2.1, y17.2.2))) fun (r158 : (List (Int × Int))) => (fun (l135 : List (Int × Int)) => some l135) r158

def m_impl_IsPoint (p0_0 : Int) (p0_1 : Int) : Option ((Bool)) :=
  Option.bind (m_impl_in p0_0 0 99) fun y7 => (bif y7 then Option.bind (m_impl_in p0_1 0 99) fun y12 => some y12 else some false)

def m_impl_noPoint (p0_0 : Int) (p0_1 : Int) : Option ((Bool)) :=
  Option.bind (m_impl_IsPoint p0_0 p0_1) fun y7 => some (!y7)

def m_slices_IndexFunc_impl_Point_impl_Point_impl_noPoint_s1 (l0 : List (Int × Int)) (s32 : Int) : Option (Ctl (Int) (Sum (Unit) ((Int)))) :=
  (fun (x26 : Int) => (bif decide (x26 < (((l0).length : Int))) then Option.bind (geti l0 x26) fun x36 => Option.bind (m_impl_noPoint x36.1 x36.2) fun y38 => (bif y38 then some (Ctl.out (Sum.inr x26)) else some (Ctl.next (wr (x26 + 1)))) else some (Ctl.out (Sum.inl (()))))) s32
noncomputable def m_slices_IndexFunc_impl_Point_impl_Point_impl_noPoint (l0 : List (Int × Int)) : Option ((Int)) :=
  Option.bind (loopM (m_slices_IndexFunc_impl_Point_impl_Point_impl_noPoint_s1 l0) 0) fun (r29 : Sum (Unit) ((Int))) => match r29 with | Sum.inl q45 => (some ((-1))) | Sum.inr v44 => some v44

noncomputable def m_slices_ContainsFunc_impl_Point_impl_Point_impl_noPoint (l0 : List (Int × Int)) : Option ((Bool)) :=
  Option.bind (m_slices_IndexFunc_impl_Point_impl_Point_impl_noPoint l0) fun y2 => some (decide (y2 ≥ 0))

noncomputable def m_impl_clockPins (l0 : List (Int × Int)) : Option ((Bool)) :=
  Option.bind (m_impl_in (((l0).length : Int)) 2 12) fun y2 => (bif y2 then Option.bind (m_slices_ContainsFunc_impl_Point_impl_Point_impl_noPoint l0) fun y7 => some (!y7) else some false)

def m_impl_leaf (p0_0 : Int) (p0_1 : Int) : Option ((Int × Int × Int × Int)) :=
  some ((wr ((wr (p0_0 + p0_1)) * 4096), wr ((wr (p0_0 + p0_1)) * 4096), wr ((wr (p0_0 - p0_1)) * 4096), wr ((wr (p0_0 - p0_1)) * 4096)))

def m_impl_Region_far (p0_0 : Int) (p0_1 : Int) (p0_2 : Int) (p0_3 : Int) (p1_0 : Int) (p1_1 : Int) (p1_2 : Int) (p1_3 : Int) : Option ((Int)) :=
  some (if (wr (p1_2 - p0_3)) > (if (wr (p0_2 - p1_3)) > (if (wr (p1_0 - p0_1)) > (if (wr (p0_0 - p1_1)) > 0 then (wr (p0_0 - p1_1)) else 0) then (wr (p1_0 - p0_1)) else (if (wr (p0_0 - p1_1)) > 0 then (wr (p0_0 - p1_1)) else 0)) then (wr (p0_2 - p1_3)) else (if (wr (p1_0 - p0_1)) > (if (wr (p0_0 - p1_1)) > 0 then (wr (p0_0 - p1_1)) else 0) then (wr (p1_0 - p0_1)) else (if (wr (p0_0 - p1_1)) > 0 then (wr (p0_0 - p1_1)) else 0))) then (wr (p1_2 - p0_3)) else (if (wr (p0_2 - p1_3)) > (if (wr (p1_0 - p0_1)) > (if (wr (p0_0 - p1_1)) > 0 then (wr (p0_0 - p1_1)) else 0) then (wr (p1_0 - p0_1)) else (if (wr (p0_0 - p1_1)) > 0 then (wr (p0_0 - p1_1)) else 0)) then (wr (p0_2 - p1_3)) else (if (wr (p1_0 - p0_1)) > (if (wr (p0_0 - p1_1)) > 0 then (wr (p0_0 - p1_1)) else 0) then (wr (p1_0 - p0_1)) else (if (wr (p0_0 - p1_1)) > 0 then (wr (p0_0 - p1_1)) else 0))))

def m_impl_size (p0 : Int) : Option ((Int)) :=
  some (if (wr (0 - p0)) > p0 then (wr (0 - p0)) else p0)

def m_impl_Region_grown (p0_0 : Int) (p0_1 : Int) (p0_2 : Int) (p0_3 : Int) (p1 : Int) : Option ((Int × Int × Int × Int)) :=
  some ((wr (p0_0 - p1), wr (p0_1 + p1), wr (p0_2 - p1), wr (p0_3 + p1)))

def m_impl_Region_meet (p0_0 : Int) (p0_1 : Int) (p0_2 : Int) (p0_3 : Int) (p1_0 : Int) (p1_1 : Int) (p1_2 : Int) (p1_3 : Int) : Option ((Int × Int × Int × Int) × (Bool)) :=
  (bif decide ((if p1_0 > p0_0 then p1_0 else p0_0) ≤ (if p1_1 < p0_1 then p1_1 else p0_1)) then some (((if p1_0 > p0_0 then p1_0 else p0_0, if p1_1 < p0_1 then p1_1 else p0_1, if p1_2 > p0_2 then p1_2 else p0_2, if p1_3 < p0_3 then p1_3 else p0_3), decide ((if p1_2 > p0_2 then p1_2 else p0_2) ≤ (if p1_3 < p0_3 then p1_3 else p0_3)))) else some (((if p1_0 > p0_0 then p1_0 else p0_0, if p1_1 < p0_1 then p1_1 else p0_1, if p1_2 > p0_2 then p1_2 else p0_2, if p1_3 < p0_3 then p1_3 else p0_3), false)))

def m_impl_ValidRegion (p0_0 : Int) (p0_1 : Int) (p0_2 : Int) (p0_3 : Int) : Option ((Bool)) :=
  Option.bind (m_impl_in p0_0 ((-1000000000)) p0_1) fun y7 => (bif y7 then Option.bind (m_impl_in p0_2 ((-1000000000)) p0_3) fun y12 => (bif y12 then (bif decide (p0_1 ≤ 1000000000) then some (decide (p0_3 ≤ 1000000000)) else some false) else some false) else some false)

def m_impl_mergeOk (p0_0 : Int) (p0_1 : Int) (p0_2 : Int) (p0_3 : Int) (p0_4 : Int) : Option ((Bool)) :=
  Option.bind (m_impl_ValidRegion p0_0 p0_1 p0_2 p0_3) fun y7 => (bif y7 then Option.bind (m_impl_in p0_4 0 1000000000) fun y12 => some y12 else some false)

def m_impl_merge (p0_0 : Int) (p0_1 : Int) (p0_2 : Int) (p0_3 : Int) (p0_4 : Int) (p1_0 : Int) (p1_1 : Int) (p1_2 : Int) (p1_3 : Int) (p1_4 : Int) : Option ((Int × Int × Int × Int × Int) × (Int) × (Int) × (Bool)) :=
  Option.bind (m_impl_Region_far p0_0 p0_1 p0_2 p0_3 p1_0 p1_1 p1_2 p1_3) fun y22 => Option.bind (m_impl_size (wr (p0_4 - p1_4))) fun y37 => (bif decide (y37 ≤ y22) then (bif (Int.tmod (wr ((wr (y22 + p1_4)) - p0_4)) 2) != 0 then some (((0, 0, 0, 0, 0), 0, 0, false)) else Option.bind (Option.bind (m_impl_Region_grown p0_0 p0_1 p0_2 p0_3 (wr (Int.tdiv (wr ((wr (y22 + p1_4)) - p0_4)) 2))) fun y255 => Option.bind (m_impl_Region_grown p1_0 p1_1 p1_2 p1_3 (wr (y22 - (wr (Int.tdiv (wr ((wr (y22 + p1_4)) - p0_4)) 2))))) fun y259 => Option.bind (m_impl_Region_meet y255.1 y255.2.1 y255.2.2.1 y255.2.2.2 y259.1 y259.2.1 y259.2.2.1 y259.2.2.2) fun y263 => some ((y263.1.1, y263.1.2.1, y263.1.2.2.1, y263.1.2.2.2, y263.2))) fun (s248 : Int × Int × Int × Int × Bool) => match s248 with | (x235, x236, x237, x238, x240) => (bif !x240 then some (((0, 0, 0, 0, 0), 0, 0, false)) else Option.bind (m_impl_mergeOk x235 x236 x237 x238 (wr (p0_4 + (wr (Int.tdiv (wr ((wr (y22 + p1_4)) - p0_4)) 2))))) fun y360 => (bif !y360 then some (((0, 0, 0, 0, 0), 0, 0, false)) else some (((x235, x236, x237, x238, wr (p0_4 + (wr (Int.tdiv (wr ((wr (y22 + p1_4)) - p0_4)) 2)))), wr (Int.tdiv (wr ((wr (y22 + p1_4)) - p0_4)) 2), wr (y22 - (wr (Int.tdiv (wr ((wr (y22 + p1_4)) - p0_4)) 2))), true))))) else Option.bind (Option.bind (m_impl_Region_grown p0_0 p0_1 p0_2 p0_3 (if 0 > (wr (p1_4 - p0_4)) then 0 else (wr (p1_4 - p0_4)))) fun y581 => Option.bind (m_impl_Region_grown p1_0 p1_1 p1_2 p1_3 (if 0 > (wr (p0_4 - p1_4)) then 0 else (wr (p0_4 - p1_4)))) fun y585 => Option.bind (m_impl_Region_meet y581.1 y581.2.1 y581.2.2.1 y581.2.2.2 y585.1 y585.2.1 y585.2.2.1 y585.2.2.2) fun y589 => some ((y589.1.1, y589.1.2.1, y589.1.2.2.1, y589.1.2.2.2, y589.2))) fun (s574 : Int × Int × Int × Int × Bool) => match s574 with | (x561, x562, x563, x564, x566) => (bif !x566 then some (((0, 0, 0, 0, 0), 0, 0, false)) else Option.bind (m_impl_mergeOk x561 x562 x563 x564 (wr (p0_4 + (if 0 > (wr (p1_4 - p0_4)) then 0 else (wr (p1_4 - p0_4)))))) fun y686 => (bif !y686 then some (((0, 0, 0, 0, 0), 0, 0, false)) else some (((x561, x562, x563, x564, wr (p0_4 + (if 0 > (wr (p1_4 - p0_4)) then 0 else (wr (p1_4 - p0_4))))), if 0 > (wr (p1_4 - p0_4)) then 0 else (wr (p1_4 - p0_4)), if 0 > (wr (p0_4 - p1_4)) then 0 else (wr (p0_4 - p1_4)), true)))))

def m_slices_Clone_int64_int64 (l0 : List (Int)) : Option ((List (Int))) :=
  Option.bind (apC (([] : List (Int))) l0) fun _ => some ((([] : List (Int))) ++ l0)

def m_impl_NearestJoins_1_bint_bint (p0 : Int) (q1_0 : Int) (q2_0 : Int) : Option ((Bool)) :=
  (bif p0 == q1_0 then some true else some (p0 == q2_0))

def m_slices_IndexFunc_int_int_impl_NearestJoins_1_bint_bint_s1 (l0 : List (Int)) (q1_0_0 : Int) (q1_1_0 : Int) (s40 : Int) : Option (Ctl (Int) (Sum (Unit) ((Int)))) :=
  (fun (x32 : Int) => (bif decide (x32 < (((l0).length : Int))) then Option.bind (geti l0 x32) fun x44 => Option.bind (m_impl_NearestJoins_1_bint_bint x44 q1_0_0 q1_1_0) fun y46 => (bif y46 then some (Ctl.out (Sum.inr x32)) else some (Ctl.next (wr (x32 + 1)))) else some (Ctl.out (Sum.inl (()))))) s40
noncomputable def m_slices_IndexFunc_int_int_impl_NearestJoins_1_bint_bint (l0 : List (Int)) (q1_0_0 : Int) (q1_1_0 : Int) : Option ((Int)) :=
  Option.bind (loopM (m_slices_IndexFunc_int_int_impl_NearestJoins_1_bint_bint_s1 l0 q1_0_0 q1_1_0) 0) fun (r37 : Sum (Unit) ((Int))) => match r37 with | Sum.inl q53 => (some ((-1))) | Sum.inr v52 => some v52

noncomputable def m_slices_DeleteFunc_int_int_impl_NearestJoins_1_bint_bint_s1 (q1_0_0 : Int) (q1_1_0 : Int) (s113 : Int × Int × (List (Int))) : Option (Ctl (Int × Int × (List (Int))) (Int × (List (Int)))) :=
  match s113 with | (x102, x103, l104) => (bif decide (x103 < (((l104).length : Int))) then Option.bind (Option.bind (geti l104 x103) fun x140 => Option.bind (m_impl_NearestJoins_1_bint_bint x140 q1_0_0 q1_1_0) fun y142 => (bif !y142 then Option.bind (geti l104 x102) fun x147 => some ((wr (x102 + 1), l104.set (Int.toNat x102) x140)) else some ((x102, l104)))) fun (s138 : Int × (List (Int))) => match s138 with | (x131, l132) => some (Ctl.next ((x131, wr (x103 + 1), l132))) else some (Ctl.out ((x102, l104))))
noncomputable def m_slices_DeleteFunc_int_int_impl_NearestJoins_1_bint_bint (l0 : List (Int)) (q1_0_0 : Int) (q1_1_0 : Int) : Option ((List (Int))) :=
  Option.bind (m_slices_IndexFunc_int_int_impl_NearestJoins_1_bint_bint l0 q1_0_0 q1_1_0) fun y4 => (bif y4 == ((-1)) then some l0 else Option.bind (loopM (m_slices_DeleteFunc_int_int_impl_NearestJoins_1_bint_bint_s1 q1_0_0 q1_1_0) ((y4, wr (y4 + 1), l0))) fun (r110 : Int × (List (Int))) => match r110 with | (x96, l97) => Option.bind (slci l97 x96 (((l97).length : Int))) fun _ => Option.bind (slci (clr (0 : Int) l97 x96) 0 x96) fun _ => some ((clr (0 : Int) l97 x96).take (Int.toNat x96)))

noncomputable def m_impl_NearestJoins_s14 (l6363 : List (Int × Int × Int × Int × Int)) (l6368 : List (Int)) (x7522 : Int) (x7538 : Int) (s7848 : Int × Int × Int) : Option (Ctl (Int × Int × Int) (Int × Int)) :=
  match s7848 with | (x7835, x7836, x7837) => (bif decide (x7835 < (((slc l6368 (wr (x7522 + 1)) (((l6368).length : Int))).length : Int))) then Option.bind (Option.bind (geti (slc l6368 (wr (x7522 + 1)) (((l6368).length : Int))) x7835) fun x7922 => Option.bind (geti l6363 x7538) fun x7956 => Option.bind (geti l6363 x7922) fun x7958 => Option.bind (geti l6363 x7836) fun x7960 => Option.bind (geti l6363 x7837) fun x7962 => Option.bind (m_impl_Region_far x7956.1 x7956.2.1 x7956.2.2.1 x7956.2.2.2.1 x7958.1 x7958.2.1 x7958.2.2.1 x7958.2.2.2.1) fun y7964 => Option.bind (m_impl_Region_far x7960.1 x7960.2.1 x7960.2.2.1 x7960.2.2.2.1 x7962.1 x7962.2.1 x7962.2.2.1 x7962.2.2.2.1) fun y7968 => (bif decide (y7964 < y7968) then some ((x7538, x7922)) else some ((x7836, x7837)))) fun (s7920 : Int × Int) => match s7920 with | (x7911, x7912) => some (Ctl.next ((wr (x7835 + 1), x7911, x7912))) else some (Ctl.out ((x7836, x7837))))
noncomputable def m_impl_NearestJoins_s13 (l6363 : List (Int × Int × Int × Int × Int)) (l6368 : List (Int)) (s7534 : Int × Int × Int) : Option (Ctl (Int × Int × Int) (Int × Int)) :=
  match s7534 with | (x7522, x7523, x7524) => (bif decide (x7522 < (((l6368).length : Int))) then Option.bind (geti l6368 x7522) fun x7538 => Option.bind (slci l6368 (wr (x7522 + 1)) (((l6368).length : Int))) fun _ => Option.bind (loopM (m_impl_NearestJoins_s14 l6363 l6368 x7522 x7538) ((0, x7523, x7524))) fun (r7845 : Int × Int) => match r7845 with | (x7826, x7827) => some (Ctl.next ((wr (x7522 + 1), x7826, x7827))) else some (Ctl.out ((x7523, x7524))))
noncomputable def m_impl_NearestJoins_s10  (s6392 : (List (Int × Int × Int × Int × Int)) × (List (Int)) × (List (List (Int)))) : Option (Ctl ((List (Int × Int × Int × Int × Int)) × (List (Int)) × (List (List (Int)))) (Sum ((List (List (Int)))) ((List (List (Int))) × (Bool)))) :=
  match s6392 with | (l6363, l6368, l6373) => (bif decide ((((l6368).length : Int)) > 1) then Option.bind (Option.bind (geti l6368 0) fun x6551 => Option.bind (geti l6368 1) fun x6553 => some ((x6551, x6553))) fun (s6544 : Int × Int) => match s6544 with | (x6524, x6527) => Option.bind (loopM (m_impl_NearestJoins_s13 l6363 l6368) ((0, x6524, x6527))) fun (r7531 : Int × Int) => match r7531 with | (x7513, x7514) => Option.bind (Option.bind (geti l6363 x7513) fun x8111 => Option.bind (geti l6363 x7514) fun x8113 => Option.bind (m_impl_merge x8111.1 x8111.2.1 x8111.2.2.1 x8111.2.2.2.1 x8111.2.2.2.2 x8113.1 x8113.2.1 x8113.2.2.1 x8113.2.2.2.1 x8113.2.2.2.2) fun y8115 => some ((y8115.1.1, y8115.1.2.1, y8115.1.2.2.1, y8115.1.2.2.2.1, y8115.1.2.2.2.2, y8115.2.2.2))) fun (s8102 : Int × Int × Int × Int × Int × Bool) => match s8102 with | (x8082, x8083, x8084, x8085, x8086, x8088) => (bif !x8088 then some (Ctl.out (Sum.inr (([], false)))) else Option.bind (m_slices_DeleteFunc_int_int_impl_NearestJoins_1_bint_bint l6368 x7513 x7514) fun y8154 => Option.bind (apC y8154 (([((l6363).length : Int)] : List (Int)))) fun _ => Option.bind (Option.bind (apC l6363 (([(x8082, x8083, x8084, x8085, x8086)] : List (Int × Int × Int × Int × Int)))) fun _ => Option.bind (apC l6373 (([([x7513, x7514] : List (Int))] : List (List (Int))))) fun _ => some ((l6363 ++ (([(x8082, x8083, x8084, x8085, x8086)] : List (Int × Int × Int × Int × Int))), l6373 ++ (([([x7513, x7514] : List (Int))] : List (List (Int))))))) fun (s9000 : (List (Int × Int × Int × Int × Int)) × (List (List (Int)))) => match s9000 with | (l8980, l8985) => some (Ctl.next ((l8980, y8154 ++ (([((l6363).length : Int)] : List (Int))), l8985)))) else some (Ctl.out (Sum.inl l6373)))
noncomputable def m_impl_NearestJoins_s1 (l0 : List (Int × Int)) (s237 : (List (Int × Int × Int × Int × Int)) × (List (Int)) × Int) : Option (Ctl ((List (Int × Int × Int × Int × Int)) × (List (Int)) × Int) ((List (Int × Int × Int × Int × Int)) × (List (Int)))) :=
  match s237 with | (l213, l218, x223) => (bif decide (x223 < (((l0).length : Int))) then Option.bind (geti l0 x223) fun x241 => Option.bind (m_impl_leaf x241.1 x241.2) fun y255 => Option.bind (apC l213 (([(y255.1, y255.2.1, y255.2.2.1, y255.2.2.2, 0)] : List (Int × Int × Int × Int × Int)))) fun _ => Option.bind (apC l218 (([x223] : List (Int)))) fun _ => some (Ctl.next ((l213 ++ (([(y255.1, y255.2.1, y255.2.2.1, y255.2.2.2, 0)] : List (Int × Int × Int × Int × Int))), l218 ++ (([x223] : List (Int))), wr (x223 + 1)))) else some (Ctl.out ((l213, l218))))
noncomputable def m_impl_NearestJoins (l0 : List (Int × Int)) : Option ((List (List (Int))) × (Bool)) :=
  Option.bind (m_impl_clockPins l0) fun y2 => (bif !y2 then some (([], false)) else Option.bind (loopM (m_impl_NearestJoins_s1 l0) ((([] : List (Int × Int × Int × Int × Int)), ([] : List (Int)), 0))) fun (r234 : (List (Int × Int × Int × Int × Int)) × (List (Int))) => match r234 with | (l193, l198) => Option.bind (loopM (m_impl_NearestJoins_s10) ((l193, l198, ([] : List (List (Int)))))) fun (r6389 : Sum ((List (List (Int)))) ((List (List (Int))) × (Bool))) => match r6389 with | Sum.inl q9403 => ((fun (l6353 : List (List (Int))) => some ((l6353, true))) q9403) | Sum.inr v9402 => some v9402)

def m_spec_R8Joins_s5 (l1056 : List (Int)) (y1080 : (Int) × (Int) × (Int)) (y1085 : (Int) × (Int) × (Int)) (s1308 : (List (Int)) × Int) : Option (Ctl ((List (Int)) × Int) ((List (Int)))) :=
  match s1308 with | (l1289, x1294) => (bif decide (x1294 < (((l1056).length : Int))) then Option.bind ((bif x1294 != y1080.1 then (bif x1294 != (wr ((wr (y1080.1 + 1)) + y1085.1)) then Option.bind (geti l1056 x1294) fun x1360 => Option.bind (apC l1289 (([x1360] : List (Int)))) fun _ => some (l1289 ++ (([x1360] : List (Int)))) else some l1289) else some l1289)) fun (s1356 : (List (Int))) => (fun (l1341 : List (Int)) => some (Ctl.next ((l1341, wr (x1294 + 1))))) s1356 else some (Ctl.out l1289))
noncomputable def m_spec_R8Joins_s4 (l0 : List (Int)) (p1 : Int) (s1076 : (List (List (Int))) × (List (Int)) × Int × Int) : Option (Ctl ((List (List (Int))) × (List (Int)) × Int × Int) ((List (List (Int))))) :=
  match s1076 with | (l1050, l1056, x1061, x1062) => (bif decide ((((l1056).length : Int)) > 1) then Option.bind (m_spec_l00Src_pick_bspecl00Src l0 x1061 x1062 (wr ((((l1056).length : Int)) - 1))) fun y1080 => Option.bind (m_spec_l00Src_pick_bspecl00Src l0 y1080.2.1 y1080.2.2 (wr ((wr ((((l1056).length : Int)) - 1)) - y1080.1))) fun y1085 => Option.bind (loopM (m_spec_R8Joins_s5 l1056 y1080 y1085) ((([] : List (Int)), 0))) fun (r1305 : (List (Int))) => (fun (l1273 : List (Int)) => Option.bind (apC l1273 (([wr (p1 + (((l1050).length : Int)))] : List (Int)))) fun _ => Option.bind (geti l1056 y1080.1) fun x1468 => Option.bind (geti l1056 (wr ((wr (y1080.1 + 1)) + y1085.1))) fun x1470 => Option.bind (apC l1050 (([([x1468, x1470] : List (Int))] : List (List (Int))))) fun _ => some (Ctl.next ((l1050 ++ (([([x1468, x1470] : List (Int))] : List (List (Int)))), l1273 ++ (([wr (p1 + (((l1050).length : Int)))] : List (Int))), y1085.2.1, y1085.2.2)))) r1305 else some (Ctl.out l1050))
def m_spec_R8Joins_s1 (p1 : Int) (s122 : (List (Int)) × Int) : Option (Ctl ((List (Int)) × Int) ((List (Int)))) :=
  match s122 with | (l105, x110) => (bif decide (x110 < p1) then Option.bind (apC l105 (([x110] : List (Int)))) fun _ => some (Ctl.next ((l105 ++ (([x110] : List (Int))), wr (x110 + 1)))) else some (Ctl.out l105))
noncomputable def m_spec_R8Joins (l0 : List (Int)) (p1 : Int) : Option ((List (List (Int)))) :=
  Option.bind (m_spec_l00From l0) fun y2 => Option.bind (loopM (m_spec_R8Joins_s1 p1) ((([] : List (Int)), 0))) fun (r119 : (List (Int))) => (fun (l91 : List (Int)) => Option.bind (loopM (m_spec_R8Joins_s4 l0 p1) ((([] : List (List (Int))), l91, y2.1, y2.2))) fun (r1073 : (List (List (Int)))) => (fun (l1040 : List (List (Int))) => some l1040) r1073) r119

def m_impl_IsJoins_s1 (p0 : Int) (l1 : List (List (Int))) (s277 : Int × (List (Int × Bool))) : Option (Ctl (Int × (List (Int × Bool))) (Sum (Unit) ((Bool)))) :=
  match s277 with | (x269, l270) => (bif decide (x269 < (((l1).length : Int))) then Option.bind (geti l1 x269) fun x281 => (bif (((x281).length : Int)) != 2 then some (Ctl.out (Sum.inr false)) else Option.bind (geti x281 0) fun x322 => (bif decide (x322 < 0) then some (Ctl.out (Sum.inr false)) else Option.bind (geti x281 0) fun x326 => Option.bind (geti x281 1) fun x328 => (bif decide (x326 ≥ x328) then some (Ctl.out (Sum.inr false)) else Option.bind (geti x281 1) fun x332 => (bif decide (x332 ≥ (wr (p0 + x269))) then some (Ctl.out (Sum.inr false)) else Option.bind (geti x281 0) fun x336 => Option.bind (mgC (okI x336) false l270 x336) fun y338 => (bif y338 then some (Ctl.out (Sum.inr false)) else Option.bind (geti x281 1) fun x342 => Option.bind (mgC (okI x342) false l270 x342) fun y344 => (bif y344 then some (Ctl.out (Sum.inr false)) else Option.bind (geti x281 0) fun x380 => Option.bind (geti x281 1) fun x382 => Option.bind (mpC (okI x380)) fun _ => Option.bind (mpC (okI x382)) fun _ => some (Ctl.next ((wr (x269 + 1), mset (ment false (mset (ment false l270 x380) x380 true) x382) x382 true))))))))) else some (Ctl.out (Sum.inl (()))))
noncomputable def m_impl_IsJoins (p0 : Int) (l1 : List (List (Int))) : Option ((Bool)) :=
  Option.bind (m_impl_in p0 2 12) fun y2 => (bif !y2 then some false else (bif (((l1).length : Int)) != (wr (p0 - 1)) then some false else Option.bind (loopM (m_impl_IsJoins_s1 p0 l1) ((0, ([] : List (Int × Bool))))) fun (r274 : Sum (Unit) ((Bool))) => match r274 with | Sum.inl q404 => (some true) | Sum.inr v403 => some v403))

noncomputable def m_impl_tree_s2 (l1 : List (List (Int))) (s833 : (List (Int × Int × Int × Int × Int)) × Int × (List (Int))) : Option (Ctl ((List (Int × Int × Int × Int × Int)) × Int × (List (Int))) (Sum ((List (Int × Int × Int × Int × Int)) × (List (Int))) ((List (Int × Int × Int × Int × Int)) × (List (Int)) × (Bool)))) :=
  match s833 with | (l817, x822, l823) => (bif decide (x822 < (((l1).length : Int))) then Option.bind (geti l1 x822) fun x837 => Option.bind (Option.bind (geti x837 0) fun x965 => Option.bind (geti l817 x965) fun x967 => Option.bind (geti x837 1) fun x969 => Option.bind (geti l817 x969) fun x971 => Option.bind (m_impl_merge x967.1 x967.2.1 x967.2.2.1 x967.2.2.2.1 x967.2.2.2.2 x971.1 x971.2.1 x971.2.2.1 x971.2.2.2.1 x971.2.2.2.2) fun y973 => some ((y973.1.1, y973.1.2.1, y973.1.2.2.1, y973.1.2.2.2.1, y973.1.2.2.2.2, y973.2.1, y973.2.2.1, y973.2.2.2))) fun (s957 : Int × Int × Int × Int × Int × Int × Int × Bool) => match s957 with | (x939, x940, x941, x942, x943, x945, x946, x947) => (bif !x947 then some (Ctl.out (Sum.inr (([], [], false)))) else Option.bind (apC l817 (([(x939, x940, x941, x942, x943)] : List (Int × Int × Int × Int × Int)))) fun _ => Option.bind (geti x837 0) fun x1058 => Option.bind (geti x837 1) fun x1060 => Option.bind (geti l823 x1058) fun x1062 => Option.bind (geti (l823.set (Int.toNat x1058) x945) x1060) fun x1067 => some (Ctl.next ((l817 ++ (([(x939, x940, x941, x942, x943)] : List (Int × Int × Int × Int × Int))), wr (x822 + 1), (l823.set (Int.toNat x1058) x945).set (Int.toNat x1060) x946)))) else some (Ctl.out (Sum.inl ((l817, l823)))))
noncomputable def m_impl_tree_s1 (l0 : List (Int × Int)) (s269 : (List (Int × Int × Int × Int × Int)) × Int) : Option (Ctl ((List (Int × Int × Int × Int × Int)) × Int) ((List (Int × Int × Int × Int × Int)))) :=
  match s269 with | (l253, x258) => (bif decide (x258 < (((l0).length : Int))) then Option.bind (geti l0 x258) fun x273 => Option.bind (m_impl_leaf x273.1 x273.2) fun y286 => Option.bind (apC l253 (([(y286.1, y286.2.1, y286.2.2.1, y286.2.2.2, 0)] : List (Int × Int × Int × Int × Int)))) fun _ => some (Ctl.next ((l253 ++ (([(y286.1, y286.2.1, y286.2.2.1, y286.2.2.2, 0)] : List (Int × Int × Int × Int × Int))), wr (x258 + 1)))) else some (Ctl.out l253))
noncomputable def m_impl_tree (l0 : List (Int × Int)) (l1 : List (List (Int))) : Option ((List (Int × Int × Int × Int × Int)) × (List (Int)) × (Bool)) :=
  Option.bind (m_impl_clockPins l0) fun y3 => (bif !y3 then some (([], [], false)) else Option.bind (m_impl_IsJoins (((l0).length : Int)) l1) fun y8 => (bif !y8 then some (([], [], false)) else Option.bind (Option.bind (mkC (wr ((wr (2 * (((l0).length : Int)))) - 1))) fun _ => some ((([] : List (Int × Int × Int × Int × Int)), List.replicate (Int.toNat (wr ((wr (2 * (((l0).length : Int)))) - 1))) ((0 : Int))))) fun (s104 : (List (Int × Int × Int × Int × Int)) × (List (Int))) => match s104 with | (l86, l91) => Option.bind (loopM (m_impl_tree_s1 l0) ((l86, 0))) fun (r266 : (List (Int × Int × Int × Int × Int))) => (fun (l241 : List (Int × Int × Int × Int × Int)) => Option.bind (loopM (m_impl_tree_s2 l1) ((l241, 0, l91))) fun (r830 : Sum ((List (Int × Int × Int × Int × Int)) × (List (Int))) ((List (Int × Int × Int × Int × Int)) × (List (Int)) × (Bool))) => match r830 with | Sum.inl q1075 => (match q1075 with | (l805, l810) => some ((l805, l810, true))) | Sum.inr v1074 => some v1074) r266))

noncomputable def m_impl_ClockWires (l0 : List (Int × Int)) (l1 : List (List (Int))) : Option ((List (Int)) × (Bool)) :=
  Option.bind (m_impl_tree l0 l1) fun y3 => some ((y3.2.1, y3.2.2))

def m_laws_r8Sum_s1 (l0 : List (Int)) (s25 : Int × Int) : Option (Ctl (Int × Int) (Int)) :=
  match s25 with | (x18, x19) => (bif decide (x19 < (((l0).length : Int))) then Option.bind (geti l0 x19) fun x29 => some (Ctl.next ((wr (x18 + x29), wr (x19 + 1)))) else some (Ctl.out x18))
noncomputable def m_laws_r8Sum (l0 : List (Int)) : Option ((Int)) :=
  Option.bind (loopM (m_laws_r8Sum_s1 l0) ((0, 0))) fun (r22 : Int) => (fun (x15 : Int) => some x15) r22

def m_laws_szPointS (l0 : List (Int × Int)) (p1 : Int) : Option ((Int)) :=
  (bif decide ((wr (p1 - (((l0).length : Int)))) < 0) then some ((-1)) else some (wr (p1 - (((l0).length : Int)))))

def m_spec_l01Point (p0_0 : Int) (p0_1 : Int) : Option ((Bool)) :=
  Option.bind (m_spec_l00In p0_0 0 99) fun y7 => (bif y7 then Option.bind (m_spec_l00In p0_1 0 99) fun y12 => some y12 else some false)

noncomputable def m_spec_l01Points_s1 (l0 : List (Int × Int)) (s33 : Int) : Option (Ctl (Int) (Sum (Unit) ((Bool)))) :=
  (fun (x27 : Int) => (bif decide (x27 < (((l0).length : Int))) then Option.bind (geti l0 x27) fun x37 => Option.bind (m_spec_l01Point x37.1 x37.2) fun y39 => (bif !y39 then some (Ctl.out (Sum.inr false)) else some (Ctl.next (wr (x27 + 1)))) else some (Ctl.out (Sum.inl (()))))) s33
noncomputable def m_spec_l01Points (l0 : List (Int × Int)) : Option ((Bool)) :=
  Option.bind (loopM (m_spec_l01Points_s1 l0) 0) fun (r30 : Sum (Unit) ((Bool))) => match r30 with | Sum.inl q46 => (some (decide ((((l0).length : Int)) ≤ 24))) | Sum.inr v45 => some v45

noncomputable def m_spec_l06Pins (l0 : List (Int × Int)) : Option ((Bool)) :=
  Option.bind (m_spec_l00In (((l0).length : Int)) 2 12) fun y2 => (bif y2 then Option.bind (m_spec_l01Points l0) fun y7 => some y7 else some false)

def m_spec_l06Leaf (p0_0 : Int) (p0_1 : Int) : Option ((Int × Int × Int × Int)) :=
  some ((wr ((wr (p0_0 + p0_1)) * 4096), wr ((wr (p0_0 + p0_1)) * 4096), wr ((wr (p0_0 - p0_1)) * 4096), wr ((wr (p0_0 - p0_1)) * 4096)))

def m_spec_l00Max (p0 : Int) (p1 : Int) : Option ((Int)) :=
  (bif decide (p0 > p1) then some p0 else some p1)

def m_spec_l06Far (p0_0 : Int) (p0_1 : Int) (p0_2 : Int) (p0_3 : Int) (p1_0 : Int) (p1_1 : Int) (p1_2 : Int) (p1_3 : Int) : Option ((Int)) :=
  Option.bind (m_spec_l00Max (wr (p0_0 - p1_1)) (wr (p1_0 - p0_1))) fun y14 => Option.bind (m_spec_l00Max 0 y14) fun y18 => Option.bind (m_spec_l00Max (wr (p0_2 - p1_3)) (wr (p1_2 - p0_3))) fun y22 => Option.bind (m_spec_l00Max 0 y22) fun y26 => Option.bind (m_spec_l00Max y18 y26) fun y31 => some y31

def m_spec_l00Min (p0 : Int) (p1 : Int) : Option ((Int)) :=
  (bif decide (p0 < p1) then some p0 else some p1)

def m_spec_l06Meet (p0_0 : Int) (p0_1 : Int) (p0_2 : Int) (p0_3 : Int) (p1_0 : Int) (p1_1 : Int) (p1_2 : Int) (p1_3 : Int) : Option ((Int × Int × Int × Int)) :=
  Option.bind (m_spec_l00Max p0_0 p1_0) fun y51 => Option.bind (m_spec_l00Min p0_1 p1_1) fun y55 => Option.bind (m_spec_l00Max p0_2 p1_2) fun y59 => Option.bind (m_spec_l00Min p0_3 p1_3) fun y63 => some ((y51, y55, y59, y63))

def m_spec_l06Grow (p0_0 : Int) (p0_1 : Int) (p0_2 : Int) (p0_3 : Int) (p1 : Int) : Option ((Int × Int × Int × Int)) :=
  some ((wr (p0_0 - p1), wr (p0_1 + p1), wr (p0_2 - p1), wr (p0_3 + p1)))

def m_spec_l06Pair (p0_0 : Int) (p0_1 : Int) (p0_2 : Int) (p0_3 : Int) (p0_4 : Int) (p1_0 : Int) (p1_1 : Int) (p1_2 : Int) (p1_3 : Int) (p1_4 : Int) : Option ((Int × Int × Int × Int × Int) × (Int) × (Int)) :=
  Option.bind (m_spec_l06Far p0_0 p0_1 p0_2 p0_3 p1_0 p1_1 p1_2 p1_3) fun y22 => Option.bind ((bif decide ((wr (p1_4 - p0_4)) > y22) then some ((wr (p1_4 - p0_4), 0)) else (bif decide ((wr (p1_4 - p0_4)) < (wr (0 - y22))) then some ((0, wr (0 - (wr (p1_4 - p0_4))))) else some ((wr (Int.tdiv (wr (y22 + (wr (p1_4 - p0_4)))) 2), wr (y22 - (wr (Int.tdiv (wr (y22 + (wr (p1_4 - p0_4)))) 2)))))))) fun (s36 : Int × Int) => match s36 with | (x30, x31) => Option.bind (Option.bind (m_spec_l06Grow p0_0 p0_1 p0_2 p0_3 x30) fun y248 => Option.bind (m_spec_l06Grow p1_0 p1_1 p1_2 p1_3 x31) fun y252 => Option.bind (m_spec_l06Meet y248.1 y248.2.1 y248.2.2.1 y248.2.2.2 y252.1 y252.2.1 y252.2.2.1 y252.2.2.2) fun y256 => some ((y256.1, y256.2.1, y256.2.2.1, y256.2.2.2))) fun (s241 : Int × Int × Int × Int) => match s241 with | (x229, x230, x231, x232) => some (((x229, x230, x231, x232, wr (p0_4 + x30)), x30, x31))

noncomputable def m_spec_l06Tree_s2 (l1 : List (List (Int))) (s855 : (List (Int × Int × Int × Int × Int)) × (List (Int)) × Int) : Option (Ctl ((List (Int × Int × Int × Int × Int)) × (List (Int)) × Int) ((List (Int × Int × Int × Int × Int)) × (List (Int)))) :=
  match s855 with | (l834, l839, x844) => (bif decide (x844 < (((l1).length : Int))) then Option.bind (Option.bind (geti l1 x844) fun x1006 => Option.bind (geti x1006 0) fun x1014 => Option.bind (geti l834 x1014) fun x1016 => Option.bind (geti l1 x844) fun x1018 => Option.bind (geti x1018 1) fun x1026 => Option.bind (geti l834 x1026) fun x1028 => Option.bind (m_spec_l06Pair x1016.1 x1016.2.1 x1016.2.2.1 x1016.2.2.2.1 x1016.2.2.2.2 x1028.1 x1028.2.1 x1028.2.2.1 x1028.2.2.2.1 x1028.2.2.2.2) fun y1030 => some ((y1030.1.1, y1030.1.2.1, y1030.1.2.2.1, y1030.1.2.2.2.1, y1030.1.2.2.2.2, y1030.2.1, y1030.2.2))) fun (s999 : Int × Int × Int × Int × Int × Int × Int) => match s999 with | (x983, x984, x985, x986, x987, x989, x990) => Option.bind (geti l1 x844) fun x1062 => Option.bind (geti x1062 0) fun x1070 => Option.bind (geti l839 x1070) fun x1072 => Option.bind (geti l1 x844) fun x1077 => Option.bind (geti x1077 1) fun x1085 => Option.bind (geti (l839.set (Int.toNat x1070) x989) x1085) fun x1087 => Option.bind (apC l834 (([(x983, x984, x985, x986, x987)] : List (Int × Int × Int × Int × Int)))) fun _ => Option.bind (apC ((l839.set (Int.toNat x1070) x989).set (Int.toNat x1085) x990) (([0] : List (Int)))) fun _ => some (Ctl.next ((l834 ++ (([(x983, x984, x985, x986, x987)] : List (Int × Int × Int × Int × Int))), ((l839.set (Int.toNat x1070) x989).set (Int.toNat x1085) x990) ++ (([0] : List (Int))), wr (x844 + 1)))) else some (Ctl.out ((l834, l839))))
noncomputable def m_spec_l06Tree_s1 (l0 : List (Int × Int)) (s179 : (List (Int × Int × Int × Int × Int)) × (List (Int)) × Int) : Option (Ctl ((List (Int × Int × Int × Int × Int)) × (List (Int)) × Int) ((List (Int × Int × Int × Int × Int)) × (List (Int)))) :=
  match s179 with | (l157, l162, x167) => (bif decide (x167 < (((l0).length : Int))) then Option.bind (geti l0 x167) fun x183 => Option.bind (m_spec_l06Leaf x183.1 x183.2) fun y185 => Option.bind (apC l157 (([(y185.1, y185.2.1, y185.2.2.1, y185.2.2.2, 0)] : List (Int × Int × Int × Int × Int)))) fun _ => Option.bind (apC l162 (([0] : List (Int)))) fun _ => some (Ctl.next ((l157 ++ (([(y185.1, y185.2.1, y185.2.2.1, y185.2.2.2, 0)] : List (Int × Int × Int × Int × Int))), l162 ++ (([0] : List (Int))), wr (x167 + 1)))) else some (Ctl.out ((l157, l162))))
noncomputable def m_spec_l06Tree (l0 : List (Int × Int)) (l1 : List (List (Int))) : Option ((List (Int × Int × Int × Int × Int)) × (List (Int))) :=
  Option.bind (loopM (m_spec_l06Tree_s1 l0) ((([] : List (Int × Int × Int × Int × Int)), ([] : List (Int)), 0))) fun (r176 : (List (Int × Int × Int × Int × Int)) × (List (Int))) => match r176 with | (l139, l144) => Option.bind (loopM (m_spec_l06Tree_s2 l1) ((l139, l144, 0))) fun (r852 : (List (Int × Int × Int × Int × Int)) × (List (Int))) => match r852 with | (l817, l822) => some ((l817, l822))

def m_spec_l06Sum_s1 (l0 : List (Int)) (s25 : Int × Int) : Option (Ctl (Int × Int) (Int)) :=
  match s25 with | (x18, x19) => (bif decide (x19 < (((l0).length : Int))) then Option.bind (geti l0 x19) fun x29 => some (Ctl.next ((wr (x18 + x29), wr (x19 + 1)))) else some (Ctl.out x18))
noncomputable def m_spec_l06Sum (l0 : List (Int)) : Option ((Int)) :=
  Option.bind (loopM (m_spec_l06Sum_s1 l0) ((0, 0))) fun (r22 : Int) => (fun (x15 : Int) => some x15) r22

def m_laws_toPoint (p0_0 : Int) (p0_1 : Int) : Option ((Int × Int)) :=
  some ((p0_0, p0_1))

def m_laws_toPointS_s1 (l0 : List (Int × Int)) (s54 : Int × (List (Int × Int))) : Option (Ctl (Int × (List (Int × Int))) ((List (Int × Int)))) :=
  match s54 with | (x46, l47) => (bif decide (x46 < (((l0).length : Int))) then Option.bind (geti l0 x46) fun x58 => Option.bind (m_laws_toPoint x58.1 x58.2) fun y60 => Option.bind (geti l47 x46) fun x64 => some (Ctl.next ((wr (x46 + 1), l47.set (Int.toNat x46) ((y60.1, y60.2))))) else some (Ctl.out l47))
noncomputable def m_laws_toPointS (l0 : List (Int × Int)) : Option ((List (Int × Int))) :=
  Option.bind (mkC (((l0).length : Int))) fun _ => Option.bind (loopM (m_laws_toPointS_s1 l0) ((0, List.replicate (Int.toNat (((l0).length : Int))) (((0, 0) : Int × Int))))) fun (r51 : (List (Int × Int))) => (fun (l42 : List (Int × Int)) => some l42) r51

def m_laws_eqInt64S_s1 (l0 : List (Int)) (l1 : List (Int)) (s57 : Int) : Option (Ctl (Int) (Sum (Unit) ((Bool)))) :=
  (fun (x50 : Int) => (bif decide (x50 < (((l0).length : Int))) then Option.bind (geti l0 x50) fun x73 => Option.bind (geti l1 x50) fun x75 => (bif x73 != x75 then some (Ctl.out (Sum.inr false)) else some (Ctl.next (wr (x50 + 1)))) else some (Ctl.out (Sum.inl (()))))) s57
noncomputable def m_laws_eqInt64S (l0 : List (Int)) (l1 : List (Int)) : Option ((Bool)) :=
  (bif (((l0).length : Int)) != (((l1).length : Int)) then some false else Option.bind (loopM (m_laws_eqInt64S_s1 l0 l1) 0) fun (r54 : Sum (Unit) ((Bool))) => match r54 with | Sum.inl q80 => (some true) | Sum.inr v79 => some v79)

noncomputable def m_laws_eqInt64SS_s1 (l0 : List (List (Int))) (l1 : List (List (Int))) (s121 : Int) : Option (Ctl (Int) (Sum (Unit) ((Bool)))) :=
  (fun (x114 : Int) => (bif decide (x114 < (((l0).length : Int))) then Option.bind (geti l0 x114) fun x153 => Option.bind (geti l1 x114) fun x161 => Option.bind (m_laws_eqInt64S x153 x161) fun y169 => (bif !y169 then some (Ctl.out (Sum.inr false)) else some (Ctl.next (wr (x114 + 1)))) else some (Ctl.out (Sum.inl (()))))) s121
noncomputable def m_laws_eqInt64SS (l0 : List (List (Int))) (l1 : List (List (Int))) : Option ((Bool)) :=
  (bif (((l0).length : Int)) != (((l1).length : Int)) then some false else Option.bind (loopM (m_laws_eqInt64SS_s1 l0 l1) 0) fun (r118 : Sum (Unit) ((Bool))) => match r118 with | Sum.inl q176 => (some true) | Sum.inr v175 => some v175)

def m_laws_eqPoint (p0_0 : Int) (p0_1 : Int) (p1_0 : Int) (p1_1 : Int) : Option ((Bool)) :=
  (bif p0_0 != p1_0 then some false else (bif p0_1 != p1_1 then some false else some true))

def m_laws_eqPointS_s1 (l0 : List (Int × Int)) (l1 : List (Int × Int)) (s73 : Int) : Option (Ctl (Int) (Sum (Unit) ((Bool)))) :=
  (fun (x66 : Int) => (bif decide (x66 < (((l0).length : Int))) then Option.bind (geti l0 x66) fun x93 => Option.bind (geti l1 x66) fun x95 => Option.bind (m_laws_eqPoint x93.1 x93.2 x95.1 x95.2) fun y97 => (bif !y97 then some (Ctl.out (Sum.inr false)) else some (Ctl.next (wr (x66 + 1)))) else some (Ctl.out (Sum.inl (()))))) s73
noncomputable def m_laws_eqPointS (l0 : List (Int × Int)) (l1 : List (Int × Int)) : Option ((Bool)) :=
  (bif (((l0).length : Int)) != (((l1).length : Int)) then some false else Option.bind (loopM (m_laws_eqPointS_s1 l0 l1) 0) fun (r70 : Sum (Unit) ((Bool))) => match r70 with | Sum.inl q104 => (some true) | Sum.inr v103 => some v103)

def m_laws_markPointS_s1  (s52 : Int × Int × (List (Int × Int))) : Option (Ctl (Int × Int × (List (Int × Int))) (Int × (List (Int × Int)))) :=
  match s52 with | (x43, x44, l45) => (bif decide (x44 < (((l45).length : Int))) then Option.bind (geti l45 x44) fun x56 => Option.bind (geti (l45.set (Int.toNat x44) ((x43, x56.2))) x44) fun x62 => some (Ctl.next ((wr ((wr (x43 + 1)) + 1), wr (x44 + 1), (l45.set (Int.toNat x44) ((x43, x56.2))).set (Int.toNat x44) ((x62.1, wr (x43 + 1)))))) else some (Ctl.out ((x43, l45))))
noncomputable def m_laws_markPointS (l0 : List (Int × Int)) (p1 : Int) : Option ((Int) × (List (Int × Int))) :=
  Option.bind (loopM (m_laws_markPointS_s1) ((p1, 0, l0))) fun (r49 : Int × (List (Int × Int))) => match r49 with | (x37, l38) => some ((x37, l38))

def m_laws_markInt64S_s1  (s40 : Int × Int × (List (Int))) : Option (Ctl (Int × Int × (List (Int))) (Int × (List (Int)))) :=
  match s40 with | (x31, x32, l33) => (bif decide (x32 < (((l33).length : Int))) then Option.bind (geti l33 x32) fun x44 => some (Ctl.next ((wr (x31 + 1), wr (x32 + 1), l33.set (Int.toNat x32) x31))) else some (Ctl.out ((x31, l33))))
noncomputable def m_laws_markInt64S (l0 : List (Int)) (p1 : Int) : Option ((Int) × (List (Int))) :=
  Option.bind (loopM (m_laws_markInt64S_s1) ((p1, 0, l0))) fun (r37 : Int × (List (Int))) => match r37 with | (x25, l26) => some ((x25, l26))

noncomputable def m_laws_markInt64SS_s1  (s70 : Int × Int × (List (List (Int)))) : Option (Ctl (Int × Int × (List (List (Int)))) (Int × (List (List (Int))))) :=
  match s70 with | (x61, x62, l63) => (bif decide (x62 < (((l63).length : Int))) then Option.bind (geti l63 x62) fun x74 => Option.bind (m_laws_markInt64S x74 x61) fun y86 => some (Ctl.next ((y86.1, wr (x62 + 1), l63.set (Int.toNat x62) y86.2))) else some (Ctl.out ((x61, l63))))
noncomputable def m_laws_markInt64SS (l0 : List (List (Int))) (p1 : Int) : Option ((Int) × (List (List (Int)))) :=
  Option.bind (loopM (m_laws_markInt64SS_s1) ((p1, 0, l0))) fun (r67 : Int × (List (List (Int)))) => match r67 with | (x55, l56) => some ((x55, l56))

def m_laws_heldInt64S_s1 (l0 : List (Int)) (s27 : Int × Int) : Option (Ctl (Int × Int) (Sum (Int) ((Int)))) :=
  match s27 with | (x20, x21) => (bif decide (x21 < (((l0).length : Int))) then Option.bind (geti l0 x21) fun x31 => (bif x31 != x20 then some (Ctl.out (Sum.inr ((-1)))) else some (Ctl.next ((wr (x20 + 1), wr (x21 + 1))))) else some (Ctl.out (Sum.inl x20)))
noncomputable def m_laws_heldInt64S (l0 : List (Int)) (p1 : Int) : Option ((Int)) :=
  Option.bind (loopM (m_laws_heldInt64S_s1 l0) ((p1, 0))) fun (r24 : Sum (Int) ((Int))) => match r24 with | Sum.inl q36 => ((fun (x17 : Int) => some x17) q36) | Sum.inr v35 => some v35

noncomputable def m_laws_heldInt64SS_s1 (l0 : List (List (Int))) (s47 : Int × Int) : Option (Ctl (Int × Int) (Sum (Int) ((Int)))) :=
  match s47 with | (x40, x41) => (bif decide (x41 < (((l0).length : Int))) then Option.bind (geti l0 x41) fun x51 => Option.bind (m_laws_heldInt64S x51 x40) fun y59 => (bif decide (y59 < 0) then some (Ctl.out (Sum.inr ((-1)))) else some (Ctl.next ((y59, wr (x41 + 1))))) else some (Ctl.out (Sum.inl x40)))
noncomputable def m_laws_heldInt64SS (l0 : List (List (Int))) (p1 : Int) : Option ((Int)) :=
  Option.bind (loopM (m_laws_heldInt64SS_s1 l0) ((p1, 0))) fun (r44 : Sum (Int) ((Int))) => match r44 with | Sum.inl q66 => ((fun (x37 : Int) => some x37) q66) | Sum.inr v65 => some v65

def m_laws_szInt64S (l0 : List (Int)) (p1 : Int) : Option ((Int)) :=
  (bif decide ((wr (p1 - (((l0).length : Int)))) < 0) then some ((-1)) else some (wr (p1 - (((l0).length : Int)))))

noncomputable def m_laws_szInt64SS_s1 (l0 : List (List (Int))) (s48 : Int × Int) : Option (Ctl (Int × Int) (Sum (Int) ((Int)))) :=
  match s48 with | (x41, x42) => (bif decide (x42 < (((l0).length : Int))) then Option.bind (geti l0 x42) fun x52 => Option.bind (m_laws_szInt64S x52 x41) fun y60 => (bif decide (y60 < 0) then some (Ctl.out (Sum.inr ((-1)))) else some (Ctl.next ((y60, wr (x42 + 1))))) else some (Ctl.out (Sum.inl x41)))
noncomputable def m_laws_szInt64SS (l0 : List (List (Int))) (p1 : Int) : Option ((Int)) :=
  (bif decide ((wr (p1 - (((l0).length : Int)))) < 0) then some ((-1)) else Option.bind (loopM (m_laws_szInt64SS_s1 l0) ((wr (p1 - (((l0).length : Int))), 0))) fun (r45 : Sum (Int) ((Int))) => match r45 with | Sum.inl q67 => ((fun (x38 : Int) => some x38) q67) | Sum.inr v66 => some v66)

noncomputable def m_laws_szWiring (p0_0 : Int) (l0_1 : List (List (Int))) (l0_2 : List (List (Int))) (l0_3 : List (Int)) (p1 : Int) : Option ((Int)) :=
  Option.bind (m_laws_szInt64SS l0_1 p1) fun y10 => (bif decide (y10 < 0) then some ((-1)) else Option.bind (m_laws_szInt64SS l0_2 y10) fun y15 => (bif decide (y15 < 0) then some ((-1)) else Option.bind (m_laws_szInt64S l0_3 y15) fun y20 => (bif decide (y20 < 0) then some ((-1)) else some y20)))

def m_spec_l00Own (l0 : List (Int)) : Option ((List (Int))) :=
  Option.bind (apC (([] : List (Int))) l0) fun _ => some ((([] : List (Int))) ++ l0)

def m_spec_l07Cross_bimplWiring_s1 (l0_1 : List (List (Int))) (p1 : Int) (p2 : Int) (s92 : Int) : Option (Ctl (Int) (Sum (Unit) ((Bool)))) :=
  (fun (x83 : Int) => (bif decide (x83 < (((l0_1).length : Int))) then Option.bind (geti l0_1 x83) fun x96 => Option.bind (geti x96 0) fun x104 => (bif x104 == p1 then Option.bind (geti x96 1) fun x107 => (bif x107 == p2 then some (Ctl.out (Sum.inr true)) else Option.bind (geti x96 0) fun x111 => (bif x111 == p2 then Option.bind (geti x96 1) fun x114 => (bif x114 == p1 then some (Ctl.out (Sum.inr true)) else some (Ctl.next (wr (x83 + 1)))) else some (Ctl.next (wr (x83 + 1))))) else Option.bind (geti x96 0) fun x119 => (bif x119 == p2 then Option.bind (geti x96 1) fun x122 => (bif x122 == p1 then some (Ctl.out (Sum.inr true)) else some (Ctl.next (wr (x83 + 1)))) else some (Ctl.next (wr (x83 + 1))))) else some (Ctl.out (Sum.inl (()))))) s92
noncomputable def m_spec_l07Cross_bimplWiring (q0_0 : Int) (l0_1 : List (List (Int))) (l0_2 : List (List (Int))) (l0_3 : List (Int)) (p1 : Int) (p2 : Int) : Option ((Bool)) :=
  Option.bind (loopM (m_spec_l07Cross_bimplWiring_s1 l0_1 p1 p2) 0) fun (r89 : Sum (Unit) ((Bool))) => match r89 with | Sum.inl q129 => (some false) | Sum.inr v128 => some v128

noncomputable def m_spec_l07All_bimplWiring_s120 (q0_0 : Int) (l0_1 : List (List (Int))) (l0_2 : List (List (Int))) (l0_3 : List (Int)) (l14412 : List (List (Int))) (x14418 : Int) (x19226 : Int) (x20827 : Int) (s21323 : Bool × Int) : Option (Ctl (Bool × Int) (Bool)) :=
  match s21323 with | (x21311, x21312) => (bif decide (x21312 < x14418) then (bif x21311 then Option.bind (geti l14412 x19226) fun x21328 => Option.bind (geti x21328 x21312) fun x21338 => (bif x21338 != x20827 then some (Ctl.next ((true, wr (x21312 + 1)))) else Option.bind (m_spec_l07Cross_bimplWiring q0_0 l0_1 l0_2 l0_3 x21312 x14418) fun y21342 => some (Ctl.next ((!y21342, wr (x21312 + 1))))) else some (Ctl.next ((false, wr (x21312 + 1))))) else some (Ctl.out x21311))
noncomputable def m_spec_l07All_bimplWiring_s121 (q0_0 : Int) (l0_1 : List (List (Int))) (l0_2 : List (List (Int))) (l0_3 : List (Int)) (l14412 : List (List (Int))) (x14418 : Int) (x19226 : Int) (x20827 : Int) (s21511 : Bool × Int) : Option (Ctl (Bool × Int) (Bool)) :=
  match s21511 with | (x21499, x21500) => (bif decide (x21500 < x14418) then (bif x21499 then Option.bind (geti l14412 x19226) fun x21516 => Option.bind (geti x21516 x21500) fun x21526 => (bif x21526 != x20827 then some (Ctl.next ((true, wr (x21500 + 1)))) else Option.bind (m_spec_l07Cross_bimplWiring q0_0 l0_1 l0_2 l0_3 x21500 x14418) fun y21530 => some (Ctl.next ((!y21530, wr (x21500 + 1))))) else some (Ctl.next ((false, wr (x21500 + 1))))) else some (Ctl.out x21499))
noncomputable def m_spec_l07All_bimplWiring_s117 (q0_0 : Int) (l0_1 : List (List (Int))) (l0_2 : List (List (Int))) (l0_3 : List (Int)) (l14412 : List (List (Int))) (x14418 : Int) (x19226 : Int) (s20840 : (List (List (Int))) × Int) : Option (Ctl ((List (List (Int))) × Int) ((List (List (Int))))) :=
  match s20840 with | (l20821, x20827) => (bif decide (x20827 < 2) then Option.bind (Option.bind (geti l0_3 x14418) fun x21237 => (bif decide (x21237 < 0) then Option.bind (loopM (m_spec_l07All_bimplWiring_s120 q0_0 l0_1 l0_2 l0_3 l14412 x14418 x19226 x20827) ((true, 0))) fun (r21320 : Bool) => (fun (x21302 : Bool) => (bif x21302 then Option.bind (geti l14412 x19226) fun x21351 => Option.bind (m_spec_l00Own x21351) fun y21361 => Option.bind (apC y21361 (([x20827] : List (Int)))) fun _ => Option.bind (apC l20821 (([y21361 ++ (([x20827] : List (Int)))] : List (List (Int))))) fun _ => some (l20821 ++ (([y21361 ++ (([x20827] : List (Int)))] : List (List (Int))))) else some l20821)) r21320 else Option.bind (geti l0_3 x14418) fun x21424 => Option.bind (loopM (m_spec_l07All_bimplWiring_s121 q0_0 l0_1 l0_2 l0_3 l14412 x14418 x19226 x20827) ((x21424 == x20827, 0))) fun (r21508 : Bool) => (fun (x21490 : Bool) => (bif x21490 then Option.bind (geti l14412 x19226) fun x21539 => Option.bind (m_spec_l00Own x21539) fun y21549 => Option.bind (apC y21549 (([x20827] : List (Int)))) fun _ => Option.bind (apC l20821 (([y21549 ++ (([x20827] : List (Int)))] : List (List (Int))))) fun _ => some (l20821 ++ (([y21549 ++ (([x20827] : List (Int)))] : List (List (Int))))) else some l20821)) r21508)) fun (s21235 : (List (List (Int)))) => (fun (l21220 : List (List (Int))) => some (Ctl.next ((l21220, wr (x20827 + 1))))) s21235 else some (Ctl.out l20821))
noncomputable def m_spec_l07All_bimplWiring_s108 (q0_0 : Int) (l0_1 : List (List (Int))) (l0_2 : List (List (Int))) (l0_3 : List (Int)) (l14412 : List (List (Int))) (x14418 : Int) (s19239 : (List (List (Int))) × Int) : Option (Ctl ((List (List (Int))) × Int) ((List (List (Int))))) :=
  match s19239 with | (l19220, x19226) => (bif decide (x19226 < (((l14412).length : Int))) then Option.bind (loopM (m_spec_l07All_bimplWiring_s117 q0_0 l0_1 l0_2 l0_3 l14412 x14418 x19226) ((l19220, 0))) fun (r20837 : (List (List (Int)))) => (fun (l20805 : List (List (Int))) => some (Ctl.next ((l20805, wr (x19226 + 1))))) r20837 else some (Ctl.out l19220))
noncomputable def m_spec_l07All_bimplWiring_s81 (q0_0 : Int) (l0_1 : List (List (Int))) (l0_2 : List (List (Int))) (l0_3 : List (Int)) (s14429 : (List (List (Int))) × Int) : Option (Ctl ((List (List (Int))) × Int) ((List (List (Int))))) :=
  match s14429 with | (l14412, x14418) => (bif decide (x14418 < q0_0) then Option.bind (loopM (m_spec_l07All_bimplWiring_s108 q0_0 l0_1 l0_2 l0_3 l14412 x14418) ((([] : List (List (Int))), 0))) fun (r19236 : (List (List (Int)))) => (fun (l19206 : List (List (Int))) => some (Ctl.next ((l19206, wr (x14418 + 1))))) r19236 else some (Ctl.out l14412))
noncomputable def m_spec_l07All_bimplWiring (q0_0 : Int) (l0_1 : List (List (Int))) (l0_2 : List (List (Int))) (l0_3 : List (Int)) : Option ((List (List (Int)))) :=
  Option.bind (loopM (m_spec_l07All_bimplWiring_s81 q0_0 l0_1 l0_2 l0_3) ((([([] : List (Int))] : List (List (Int))), 0))) fun (r14426 : (List (List (Int)))) => (fun (l14402 : List (List (Int))) => some l14402) r14426

noncomputable def m_spec_l07Best_bimplWiring_s1 (q0_0 : Int) (l0_1 : List (List (Int))) (l0_2 : List (List (Int))) (l0_3 : List (Int)) (y5 : (List (List (Int)))) (s450 : (List (Int)) × Int × Int × Int) : Option (Ctl ((List (Int)) × Int × Int × Int) ((List (Int)) × Int × Int)) :=
  match s450 with | (l430, x435, x436, x437) => (bif decide (x437 < (((y5).length : Int))) then Option.bind (Option.bind (geti y5 x437) fun x556 => Option.bind (m_spec_l07Cost_bimplWiring q0_0 l0_1 l0_2 l0_3 x556) fun y566 => Option.bind ((bif decide (x435 < 0) then Option.bind (geti y5 x437) fun x616 => some ((x616, y566, 0)) else (bif decide (y566 < x435) then Option.bind (geti y5 x437) fun x628 => some ((x628, y566, 0)) else some ((l430, x435, x436))))) fun (s612 : (List (Int)) × Int × Int) => match s612 with | (l596, x601, x602) => (bif y566 == x601 then some ((l596, x601, wr (x602 + 1))) else some ((l596, x601, x602)))) fun (s554 : (List (Int)) × Int × Int) => match s554 with | (l538, x543, x544) => some (Ctl.next ((l538, x543, x544, wr (x437 + 1)))) else some (Ctl.out ((l430, x435, x436))))
noncomputable def m_spec_l07Best_bimplWiring (q0_0 : Int) (l0_1 : List (List (Int))) (l0_2 : List (List (Int))) (l0_3 : List (Int)) : Option ((List (Int)) × (Int) × (Int)) :=
  Option.bind (m_spec_l07All_bimplWiring q0_0 l0_1 l0_2 l0_3) fun y5 => Option.bind (loopM (m_spec_l07Best_bimplWiring_s1 q0_0 l0_1 l0_2 l0_3 y5) ((([] : List (Int)), (-1), 0, 0))) fun (r447 : (List (Int)) × Int × Int) => match r447 with | (l418, x423, x424) => some ((l418, x423, x424))

noncomputable def m_spec_CountBest (p0_0 : Int) (l0_1 : List (List (Int))) (l0_2 : List (List (Int))) (l0_3 : List (Int)) : Option ((Int) × (Bool)) :=
  Option.bind (m_spec_l07Is_bimplWiring p0_0 l0_1 l0_2 l0_3) fun y10 => (bif !y10 then some ((0, false)) else Option.bind (m_spec_l07Best_bimplWiring p0_0 l0_1 l0_2 l0_3) fun y15 => some ((y15.2.2, true)))

def m_laws_toInt64S_s1 (l0 : List (Int)) (s46 : Int × (List (Int))) : Option (Ctl (Int × (List (Int))) ((List (Int)))) :=
  match s46 with | (x38, l39) => (bif decide (x38 < (((l0).length : Int))) then Option.bind (geti l0 x38) fun x50 => Option.bind (geti l39 x38) fun x52 => some (Ctl.next ((wr (x38 + 1), l39.set (Int.toNat x38) x50))) else some (Ctl.out l39))
noncomputable def m_laws_toInt64S (l0 : List (Int)) : Option ((List (Int))) :=
  Option.bind (mkC (((l0).length : Int))) fun _ => Option.bind (loopM (m_laws_toInt64S_s1 l0) ((0, List.replicate (Int.toNat (((l0).length : Int))) ((0 : Int))))) fun (r43 : (List (Int))) => (fun (l34 : List (Int)) => some l34) r43

noncomputable def m_laws_toInt64SS_s1 (l0 : List (List (Int))) (s112 : (List (List (Int))) × Int) : Option (Ctl ((List (List (Int))) × Int) ((List (List (Int))))) :=
  match s112 with | (l98, x104) => (bif decide (x104 < (((l0).length : Int))) then Option.bind (geti l0 x104) fun x116 => Option.bind (m_laws_toInt64S x116) fun y124 => Option.bind (geti l98 x104) fun x136 => some (Ctl.next ((l98.set (Int.toNat x104) y124, wr (x104 + 1)))) else some (Ctl.out l98))
noncomputable def m_laws_toInt64SS (l0 : List (List (Int))) : Option ((List (List (Int)))) :=
  Option.bind (mkC (((l0).length : Int))) fun _ => Option.bind (loopM (m_laws_toInt64SS_s1 l0) ((List.replicate (Int.toNat (((l0).length : Int))) ([] : List (Int)), 0))) fun (r109 : (List (List (Int)))) => (fun (l88 : List (List (Int))) => some l88) r109

noncomputable def m_laws_toWiring (p0_0 : Int) (l0_1 : List (List (Int))) (l0_2 : List (List (Int))) (l0_3 : List (Int)) : Option ((Int × (List (List (Int))) × (List (List (Int))) × (List (Int)))) :=
  Option.bind (m_laws_toInt64SS l0_1) fun y28 => Option.bind (m_laws_toInt64SS l0_2) fun y45 => Option.bind (m_laws_toInt64S l0_3) fun y63 => some ((p0_0, y28, y45, y63))

noncomputable def m_laws_eqWiring (p0_0 : Int) (l0_1 : List (List (Int))) (l0_2 : List (List (Int))) (l0_3 : List (Int)) (p1_0 : Int) (l1_1 : List (List (Int))) (l1_2 : List (List (Int))) (l1_3 : List (Int)) : Option ((Bool)) :=
  (bif p0_0 != p1_0 then some false else Option.bind (m_laws_eqInt64SS l0_1 l1_1) fun y21 => (bif !y21 then some false else Option.bind (m_laws_eqInt64SS l0_2 l1_2) fun y26 => (bif !y26 then some false else Option.bind (m_laws_eqInt64S l0_3 l1_3) fun y31 => (bif !y31 then some false else some true))))

noncomputable def m_laws_FnExactCountBest (p0_0 : Int) (l0_1 : List (List (Int))) (l0_2 : List (List (Int))) (l0_3 : List (Int)) : Option ((Bool)) :=
  Option.bind (m_laws_szWiring p0_0 l0_1 l0_2 l0_3 1048576) fun y10 => (bif decide (y10 < 0) then some true else Option.bind (m_laws_toWiring p0_0 l0_1 l0_2 l0_3) fun y15 => Option.bind (m_spec_CountBest y15.1 y15.2.1 y15.2.2.1 y15.2.2.2) fun y46 => Option.bind (m_laws_toWiring p0_0 l0_1 l0_2 l0_3) fun y50 => Option.bind (m_impl_CountBest y50.1 y50.2.1 y50.2.2.1 y50.2.2.2) fun y106 => (bif y106.1 != y46.1 then some false else (bif !(y106.2 == y46.2) then some false else Option.bind (m_laws_toWiring p0_0 l0_1 l0_2 l0_3) fun y195 => Option.bind (m_laws_eqWiring y50.1 y50.2.1 y50.2.2.1 y50.2.2.2 y195.1 y195.2.1 y195.2.2.1 y195.2.2.2) fun y247 => (bif !y247 then some false else some true))))

noncomputable def m_spec_FewestVias (p0_0 : Int) (l0_1 : List (List (Int))) (l0_2 : List (List (Int))) (l0_3 : List (Int)) : Option ((List (Int)) × (Int) × (Bool)) :=
  Option.bind (m_spec_l07Is_bimplWiring p0_0 l0_1 l0_2 l0_3) fun y10 => (bif !y10 then some (([], 0, false)) else Option.bind (m_spec_l07Best_bimplWiring p0_0 l0_1 l0_2 l0_3) fun y15 => (bif decide (y15.2.1 < 0) then some (([], 0, false)) else some ((y15.1, y15.2.1, true))))

noncomputable def m_laws_markWiring (p0_0 : Int) (l0_1 : List (List (Int))) (l0_2 : List (List (Int))) (l0_3 : List (Int)) (p1 : Int) : Option ((Int) × (List (List (Int))) × (List (List (Int))) × (List (Int))) :=
  Option.bind (m_laws_markInt64SS l0_1 p1) fun y10 => Option.bind (m_laws_markInt64SS l0_2 y10.1) fun y17 => Option.bind (m_laws_markInt64S l0_3 y17.1) fun y24 => some ((y24.1, y10.2, y17.2, y24.2))

noncomputable def m_laws_FnExactFewestVias (p0_0 : Int) (l0_1 : List (List (Int))) (l0_2 : List (List (Int))) (l0_3 : List (Int)) : Option ((Bool)) :=
  Option.bind (m_laws_szWiring p0_0 l0_1 l0_2 l0_3 1048576) fun y10 => (bif decide (y10 < 0) then some true else Option.bind (m_laws_toWiring p0_0 l0_1 l0_2 l0_3) fun y15 => Option.bind (m_spec_FewestVias y15.1 y15.2.1 y15.2.2.1 y15.2.2.2) fun y46 => Option.bind (m_laws_toWiring p0_0 l0_1 l0_2 l0_3) fun y60 => Option.bind (m_impl_FewestVias y60.1 y60.2.1 y60.2.2.1 y60.2.2.2) fun y120 => Option.bind (m_laws_eqInt64S y120.1 y46.1) fun y141 => (bif !y141 then some false else (bif y120.2.1 != y46.2.1 then some false else (bif !(y120.2.2 == y46.2.2) then some false else Option.bind (m_laws_toWiring p0_0 l0_1 l0_2 l0_3) fun y240 => Option.bind (m_laws_eqWiring y60.1 y60.2.1 y60.2.2.1 y60.2.2.2 y240.1 y240.2.1 y240.2.2.1 y240.2.2.2) fun y298 => (bif !y298 then some false else Option.bind (m_laws_markWiring y60.1 y60.2.1 y60.2.2.1 y60.2.2.2 1) fun y304 => (bif decide (y304.1 < 0) then some false else Option.bind (m_laws_eqInt64S y120.1 y46.1) fun y316 => (bif !y316 then some false else (bif y120.2.1 != y46.2.1 then some false else (bif !(y120.2.2 == y46.2.2) then some false else Option.bind (m_laws_markInt64S y120.1 1) fun y326 => Option.bind (m_laws_heldInt64S y326.2 1) fun y332 => (bif decide (y332 < 0) then some false else (bif y332 != y326.1 then some false else Option.bind (m_laws_toWiring p0_0 l0_1 l0_2 l0_3) fun y338 => Option.bind (m_impl_FewestVias y338.1 y338.2.1 y338.2.2.1 y338.2.2.2) fun y405 => Option.bind (m_laws_eqInt64S y405.1 y46.1) fun y433 => (bif !y433 then some false else (bif y405.2.1 != y46.2.1 then some false else (bif !(y405.2.2 == y46.2.2) then some false else Option.bind (m_laws_heldInt64S y326.2 1) fun y440 => (bif decide (y440 < 0) then some false else (bif y440 != y326.1 then some false else some true))))))))))))))))

def m_spec_l00Has_s1 (l0 : List (Int)) (p1 : Int) (s24 : Int) : Option (Ctl (Int) (Sum (Unit) ((Bool)))) :=
  (fun (x18 : Int) => (bif decide (x18 < (((l0).length : Int))) then Option.bind (geti l0 x18) fun x28 => (bif x28 == p1 then some (Ctl.out (Sum.inr true)) else some (Ctl.next (wr (x18 + 1)))) else some (Ctl.out (Sum.inl (()))))) s24
noncomputable def m_spec_l00Has (l0 : List (Int)) (p1 : Int) : Option ((Bool)) :=
  Option.bind (loopM (m_spec_l00Has_s1 l0 p1) 0) fun (r21 : Sum (Unit) ((Bool))) => match r21 with | Sum.inl q33 => (some false) | Sum.inr v32 => some v32

def m_spec_l00Put_s1 (l0 : List (Int)) (p1 : Int) (s411 : (List (Int)) × Bool × Int) : Option (Ctl ((List (Int)) × Bool × Int) ((List (Int)) × Bool)) :=
  match s411 with | (l397, x402, x403) => (bif decide (x403 < (((l0).length : Int))) then Option.bind (Option.bind ((bif !x402 then Option.bind (geti l0 x403) fun x553 => (bif decide (x553 ≥ p1) then Option.bind (geti l0 x403) fun x556 => (bif decide (x556 > p1) then Option.bind (apC l397 (([p1] : List (Int)))) fun _ => some ((l397 ++ (([p1] : List (Int))), true)) else some ((l397, true))) else some ((l397, x402))) else some ((l397, x402)))) fun (s550 : (List (Int)) × Bool) => match s550 with | (l540, x545) => Option.bind (geti l0 x403) fun x578 => Option.bind (apC l540 (([x578] : List (Int)))) fun _ => some ((l540 ++ (([x578] : List (Int))), x545))) fun (s511 : (List (Int)) × Bool) => match s511 with | (l501, x506) => some (Ctl.next ((l501, x506, wr (x403 + 1)))) else some (Ctl.out ((l397, x402))))
noncomputable def m_spec_l00Put (l0 : List (Int)) (p1 : Int) : Option ((List (Int))) :=
  Option.bind (loopM (m_spec_l00Put_s1 l0 p1) ((([] : List (Int)), false, 0))) fun (r408 : (List (Int)) × Bool) => match r408 with | (l387, x392) => Option.bind ((bif !x392 then Option.bind (apC l387 (([p1] : List (Int)))) fun _ => some (l387 ++ (([p1] : List (Int)))) else some l387)) fun (s627 : (List (Int))) => (fun (l619 : List (Int)) => some l619) s627

noncomputable def m_spec_l07Groups_bimplWiring_s15 (q0_0 : Int) (l0_1 : List (List (Int))) (l0_2 : List (List (Int))) (l0_3 : List (Int)) (x3404 : Int) (s3670 : (List (Int)) × Int) : Option (Ctl ((List (Int)) × Int) ((List (Int)))) :=
  match s3670 with | (l3650, x3655) => (bif decide (x3655 < q0_0) then Option.bind (Option.bind (geti l3650 x3404) fun x3729 => Option.bind (m_spec_l07Cross_bimplWiring q0_0 l0_1 l0_2 l0_3 x3729 x3655) fun y3731 => (bif y3731 then Option.bind (m_spec_l00Has l3650 x3655) fun y3736 => (bif !y3736 then Option.bind (apC l3650 (([x3655] : List (Int)))) fun _ => some (l3650 ++ (([x3655] : List (Int)))) else some l3650) else some l3650)) fun (s3727 : (List (Int))) => (fun (l3711 : List (Int)) => some (Ctl.next ((l3711, wr (x3655 + 1))))) s3727 else some (Ctl.out l3650))
noncomputable def m_spec_l07Groups_bimplWiring_s16 (l3382 : List (Int)) (s3882 : (List (Int)) × Int) : Option (Ctl ((List (Int)) × Int) ((List (Int)))) :=
  match s3882 with | (l3860, x3865) => (bif decide (x3865 < (((l3382).length : Int))) then Option.bind (geti l3382 x3865) fun x3886 => Option.bind (m_spec_l00Put l3860 x3886) fun y3888 => some (Ctl.next ((y3888, wr (x3865 + 1)))) else some (Ctl.out l3860))
noncomputable def m_spec_l07Groups_bimplWiring_s14 (q0_0 : Int) (l0_1 : List (List (Int))) (l0_2 : List (List (Int))) (l0_3 : List (Int)) (s3419 : (List (Int)) × Int) : Option (Ctl ((List (Int)) × Int) ((List (Int)))) :=
  match s3419 with | (l3399, x3404) => (bif decide (x3404 < (((l3399).length : Int))) then Option.bind (loopM (m_spec_l07Groups_bimplWiring_s15 q0_0 l0_1 l0_2 l0_3 x3404) ((l3399, 0))) fun (r3667 : (List (Int))) => (fun (l3633 : List (Int)) => some (Ctl.next ((l3633, wr (x3404 + 1))))) r3667 else some (Ctl.out l3399))
noncomputable def m_spec_l07Groups_bimplWiring_s11 (q0_0 : Int) (l0_1 : List (List (Int))) (l0_2 : List (List (Int))) (l0_3 : List (Int)) (s2651 : (List (List (Int))) × (List (Int)) × Int) : Option (Ctl ((List (List (Int))) × (List (Int)) × Int) ((List (List (Int))))) :=
  match s2651 with | (l2626, l2632, x2637) => (bif decide (x2637 < q0_0) then Option.bind (m_spec_l00Has l2632 x2637) fun y2655 => (bif y2655 then some (Ctl.next ((l2626, l2632, wr (x2637 + 1)))) else Option.bind (loopM (m_spec_l07Groups_bimplWiring_s14 q0_0 l0_1 l0_2 l0_3) ((([x2637] : List (Int)), 0))) fun (r3416 : (List (Int))) => (fun (l3382 : List (Int)) => Option.bind (loopM (m_spec_l07Groups_bimplWiring_s16 l3382) ((([] : List (Int)), 0))) fun (r3879 : (List (Int))) => (fun (l3841 : List (Int)) => Option.bind (apC l2632 l3382) fun _ => Option.bind (apC l2626 (([l3841] : List (List (Int))))) fun _ => some (Ctl.next ((l2626 ++ (([l3841] : List (List (Int)))), l2632 ++ l3382, wr (x2637 + 1))))) r3879) r3416) else some (Ctl.out l2626))
noncomputable def m_spec_l07Groups_bimplWiring (q0_0 : Int) (l0_1 : List (List (Int))) (l0_2 : List (List (Int))) (l0_3 : List (Int)) : Option ((List (List (Int)))) :=
  Option.bind (loopM (m_spec_l07Groups_bimplWiring_s11 q0_0 l0_1 l0_2 l0_3) ((([] : List (List (Int))), ([] : List (Int)), 0))) fun (r2648 : (List (List (Int)))) => (fun (l2616 : List (List (Int))) => some l2616) r2648

noncomputable def m_spec_GroupsOf (p0_0 : Int) (l0_1 : List (List (Int))) (l0_2 : List (List (Int))) (l0_3 : List (Int)) : Option ((List (List (Int))) × (Bool)) :=
  Option.bind (m_spec_l07Is_bimplWiring p0_0 l0_1 l0_2 l0_3) fun y10 => (bif !y10 then some (([], false)) else Option.bind (m_spec_l07Groups_bimplWiring p0_0 l0_1 l0_2 l0_3) fun y15 => some ((y15, true)))

noncomputable def m_spec_FlipGroup_s1 (l0_3 : List (Int)) (p2 : Int) (y21 : (List (List (Int)))) (s153 : Int × (List (Int))) : Option (Ctl (Int × (List (Int))) (Sum ((List (Int))) ((List (Int)) × (Bool)))) :=
  match s153 with | (x141, l142) => Option.bind (geti y21 p2) fun x156 => (bif decide (x141 < (((x156).length : Int))) then Option.bind (geti y21 p2) fun x167 => Option.bind (geti x167 x141) fun x177 => Option.bind (geti l0_3 x177) fun x179 => (bif decide (x179 ≥ 0) then some (Ctl.out (Sum.inr (([], false)))) else Option.bind (geti l142 x177) fun x183 => Option.bind (geti l142 x177) fun x185 => some (Ctl.next ((wr (x141 + 1), l142.set (Int.toNat x177) (wr (1 - x183)))))) else some (Ctl.out (Sum.inl l142)))
noncomputable def m_spec_FlipGroup (p0_0 : Int) (l0_1 : List (List (Int))) (l0_2 : List (List (Int))) (l0_3 : List (Int)) (l1 : List (Int)) (p2 : Int) : Option ((List (Int)) × (Bool)) :=
  Option.bind (m_spec_l07Is_bimplWiring p0_0 l0_1 l0_2 l0_3) fun y11 => (bif !y11 then some (([], false)) else Option.bind (m_spec_l07Layering_bimplWiring p0_0 l0_1 l0_2 l0_3 l1) fun y16 => (bif !y16 then some (([], false)) else Option.bind (m_spec_l07Groups_bimplWiring p0_0 l0_1 l0_2 l0_3) fun y21 => Option.bind (m_spec_l00In p2 0 (wr ((((y21).length : Int)) - 1))) fun y33 => (bif !y33 then some (([], false)) else Option.bind (m_spec_l00Own l1) fun y38 => Option.bind (loopM (m_spec_FlipGroup_s1 l0_3 p2 y21) ((0, y38))) fun (r150 : Sum ((List (Int))) ((List (Int)) × (Bool))) => match r150 with | Sum.inl q192 => ((fun (l137 : List (Int)) => some ((l137, true))) q192) | Sum.inr v191 => some v191)))

end Go.Proofs.Ytngnljnfbfgfeaa
