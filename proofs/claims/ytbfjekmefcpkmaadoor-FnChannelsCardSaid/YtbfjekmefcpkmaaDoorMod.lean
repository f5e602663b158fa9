/- Printed models: what each function reckons, in plain Lean. -/
import Derived.Test.YtbfjekmefcpkmaaDoorCtz
set_option linter.unusedSimpArgs false
set_option linter.unusedVariables false
namespace Go.Proofs.YtbfjekmefcpkmaaDoor
open Go.RowKit

def m_laws_b10Long (l0 : List Int) (l1 : List Int) : Option Bool :=
 (bif decide ((l0.length : Int) > 1048576) then some true else some (decide ((l1.length : Int) > 1048576)))

def m_spec_l00From (l0 : List Int) : Option ((Int × Int)) :=
 some ((0, 0))

def m_sL00SrNext (l0_0 : List Int) (q0_1 : Int) (q0_2 : Int) : Option ((Int) × (Int) × (Int)) :=
 Option.bind ((bif decide (q0_1 < (l0_0.length : Int)) then (geti l0_0 q0_1).bind fun x1 => some (wr x1) else some 0)) fun (s1 : Int) => (fun (x2 : Int) => (bif decide ((wr (q0_1 + 1)) ≤ (l0_0.length : Int)) then some ((x2, wr (q0_1 + 1), wu ((wu ((wu (q0_2 * 6364136223846793005)) + (wu x2))) + 1442695040888963407))) else some ((wr (andU (shrU (wu ((wu ((wu (q0_2 * 6364136223846793005)) + (wu x2))) + 1442695040888963407)) 40) 255), wr (q0_1 + 1), wu ((wu ((wu (q0_2 * 6364136223846793005)) + (wu x2))) + 1442695040888963407))))) s1

def m_sL00SrPick (l0_0 : List Int) (q0_1 : Int) (q0_2 : Int) (p1 : Int) : Option ((Int) × (Int) × (Int)) :=
 (bif decide (p1 ≤ 1) then some ((0, q0_1, q0_2)) else (m_sL00SrNext l0_0 q0_1 q0_2).bind fun y1 => Option.bind ((bif decide (p1 > 200) then (m_sL00SrNext l0_0 y1.2.1 y1.2.2).bind fun y2 => some ((wr ((wr (y1.1 * 256)) + y2.1), y2.2.1, y2.2.2)) else some ((y1.1, y1.2.1, y1.2.2)))) fun (s1 : Int × Int × Int) => match s1 with | (x1, x2, x3) => (nzC p1).bind fun u1 => some ((Int.tmod x1 p1, x2, x3)))

def m_sL03Dr_s2 (p1 : Int) (l1 : List Int) (s1 : Int × (List Int) × (List Int)) : Option (Ctl (Int × (List Int) × (List Int)) ((List Int) × (List Int))) :=
 match s1 with | (x1, l2, l3) => (bif decide (x1 < p1) then Option.bind (Option.bind ((geti l2 x1).bind fun x2 => (geti l1 x2).bind fun x3 => (bif x3 == 1 then (geti l2 x1).bind fun x4 => some (l2.set (Int.toNat x1) 0) else some l2)) fun (s2 : (List Int)) => (fun (l4 : List Int) => (geti l3 x1).bind fun x5 => (geti l1 x5).bind fun x6 => (bif x6 == 1 then (geti l3 x1).bind fun x7 => some ((l4, l3.set (Int.toNat x1) 0)) else some ((l4, l3)))) s2) fun (s3 : (List Int) × (List Int)) => match s3 with | (l5, l6) => some (Ctl.next ((wr (x1 + 1), l5, l6))) else some (Ctl.out ((l2, l3))))
noncomputable def m_sL03Dr_s1 (l0_0 : List Int) (p1 : Int) (p2 : Int) (s4 : Int × (List Int) × (List Int) × Int × Int × (List Int)) : Option (Ctl (Int × (List Int) × (List Int) × Int × Int × (List Int)) ((List Int) × (List Int) × Int × Int × (List Int))) :=
 match s4 with | (x8, l7, l8, x9, x10, l9) => (bif decide (x8 < p1) then Option.bind (m_sL00SrPick l0_0 x9 x10 (wr (p2 + 1))) fun y1 => Option.bind (m_sL00SrPick l0_0 y1.2.1 y1.2.2 (wr (p2 + 1))) fun y2 => Option.bind (apC l7 (([y1.1] : List Int))) fun _ => Option.bind (apC l8 (([y2.1] : List Int))) fun _ => (geti l9 y1.1).bind fun x11 => (geti l9 y1.1).bind fun x12 => Option.bind (geti (l9.set (Int.toNat y1.1) (wr (x11 + 1))) y2.1) fun x13 => Option.bind (geti (l9.set (Int.toNat y1.1) (wr (x11 + 1))) y2.1) fun x14 => some (Ctl.next ((wr (x8 + 1), l7 ++ (([y1.1] : List Int)), l8 ++ (([y2.1] : List Int)), y2.2.1, y2.2.2, (l9.set (Int.toNat y1.1) (wr (x11 + 1))).set (Int.toNat y2.1) (wr (x13 + 1))))) else some (Ctl.out ((l7, l8, x9, x10, l9))))
noncomputable def m_sL03Dr (l0_0 : List Int) (q0_1 : Int) (q0_2 : Int) (p1 : Int) (p2 : Int) : Option (((List Int) × (List Int)) × (Int) × (Int)) :=
 (mkC 13).bind fun _ => Option.bind (loopM (m_sL03Dr_s1 l0_0 p1 p2) ((0, ([] : List Int), ([] : List Int), q0_1, q0_2, List.replicate (Int.toNat 13) ((0 : Int))))) fun (r1 : (List Int) × (List Int) × Int × Int × (List Int)) => match r1 with | (l10, l11, x15, x16, l1) => Option.bind (loopM (m_sL03Dr_s2 p1 l1) ((0, l10, l11))) fun (r2 : (List Int) × (List Int)) => match r2 with | (l12, l13) => some (((l12, l13), x15, x16))

noncomputable def m_sB10Ch (l0 : List Int) : Option (((List Int) × (List Int))) :=
 (m_spec_l00From l0).bind fun y1 => (m_sL00SrPick l0 y1.1 y1.2 8).bind fun y2 => (m_sL00SrPick l0 y2.2.1 y2.2.2 5).bind fun y3 => Option.bind (m_sL03Dr l0 y3.2.1 y3.2.2 (wr (1 + y2.1)) (wr (1 + y3.1))) fun y4 => some ((y4.1.1, y4.1.2))

def m_impl_in (p0 : Int) (p1 : Int) (p2 : Int) : Option Bool :=
 (bif decide (p0 ≥ p1) then some (decide (p0 ≤ p2)) else some false)

def m_sGrowNil (p1 : Int) : Option ((List Int)) :=
 Option.bind ((bif decide (p1 < 0) then none else some (()))) fun (s1 : Unit) => Option.bind ((bif decide ((wr (p1 - (wr (0 - 0)))) > 0) then Option.bind (mkC (wr (p1 - (wr (0 - 0))))) fun _ => Option.bind (chk (decide (0 < (wr (p1 - (wr (0 - 0))))))) fun _ => Option.bind (slci (List.replicate (Int.toNat (wr (p1 - (wr (0 - 0))))) ((0 : Int))) 0 0) fun _ => some ((List.replicate (Int.toNat (wr (p1 - (wr (0 - 0))))) ((0 : Int))).take (Int.toNat 0)) else some (([] : List Int)))) fun (s2 : (List Int)) => (fun (l1 : List Int) => some l1) s2

def m_sConca_s2 (l0 : List (List Int)) (s1 : (List Int) × Int) : Option (Ctl ((List Int) × Int) ((List Int))) :=
 match s1 with | (l1, x1) => (bif decide (x1 < (l0.length : Int)) then (geti l0 x1).bind fun x2 => (apC l1 x2).bind fun _ => some (Ctl.next ((l1 ++ x2, wr (x1 + 1)))) else some (Ctl.out l1))
def m_sConca_s1 (l0 : List (List Int)) (s2 : Int × Int) : Option (Ctl (Int × Int) (Int)) :=
 match s2 with | (x3, x4) => (bif decide (x4 < (l0.length : Int)) then Option.bind ((geti l0 x4).bind fun x5 => (bif decide ((wr (x3 + (x5.length : Int))) < 0) then none else some (wr (x3 + (x5.length : Int))))) fun (s3 : Int) => (fun (x6 : Int) => some (Ctl.next ((x6, wr (x4 + 1))))) s3 else some (Ctl.out x3))
noncomputable def m_sConca (l0 : List (List Int)) : Option ((List Int)) :=
 Option.bind (loopM (m_sConca_s1 l0) ((0, 0))) fun (r1 : Int) => (fun (x7 : Int) => (m_sGrowNil x7).bind fun y1 => Option.bind (loopM (m_sConca_s2 l0) ((y1, 0))) fun (r2 : (List Int)) => (fun (l2 : List Int) => some l2) r2) r1

noncomputable def m_iValid_s2  (s1 : Unit) (p1 : Int × Int) : Option (Ctl (Unit) (Sum Unit Bool)) :=
 (bif decide (p1.1 > 0) then (bif decide (p1.2 < 2) then some (Ctl.out (Sum.inr false)) else some (Ctl.next (()))) else some (Ctl.next (())))
noncomputable def m_iValid_s1 (y1 : (List Int)) (s2 : Int × (List (Int × Int))) : Option (Ctl (Int × (List (Int × Int))) (Sum ((List (Int × Int))) Bool)) :=
 match s2 with | (x1, l1) => (bif decide (x1 < (y1.length : Int)) then (geti y1 x1).bind fun x2 => (m_impl_in x2 0 12).bind fun y2 => (bif !y2 then some (Ctl.out (Sum.inr false)) else Option.bind (mgC (okI x2) 0 l1 x2) fun y3 => Option.bind (mpC (okI x2)) fun _ => some (Ctl.next ((wr (x1 + 1), mup l1 x2 (wr (y3 + 1)))))) else some (Ctl.out (Sum.inl l1)))
noncomputable def m_iValid (l0_0 : List Int) (l0_1 : List Int) : Option Bool :=
 (m_impl_in (l0_0.length : Int) 1 24).bind fun y4 => (bif !y4 then some false else (bif (l0_1.length : Int) != (l0_0.length : Int) then some false else Option.bind (m_sConca (([l0_0, l0_1] : List (List Int)))) fun y1 => Option.bind (loopM (m_iValid_s1 y1) ((0, ([] : List (Int × Int))))) fun (r1 : Sum ((List (Int × Int))) Bool) => match r1 with | Sum.inl q1 => ((fun (l2 : List (Int × Int)) => allO l2 fun (lo1 : List (Int × Int)) => Option.bind (foldE (m_iValid_s2) (()) lo1) fun (r2 : Sum (Unit) (Sum Unit Bool)) => match r2 with | Sum.inl q2 => (some true) | Sum.inr (Sum.inr v1) => some v1 | Sum.inr (Sum.inl _) => none) q1) | Sum.inr v2 => some v2))

def m_sIndex_s1 (l0 : List Int) (p1 : Int) (s1 : Int) : Option (Ctl (Int) (Sum (Unit) ((Int)))) :=
 (fun (x1 : Int) => (bif decide (x1 < (l0.length : Int)) then (geti l0 x1).bind fun x2 => (bif p1 == x2 then some (Ctl.out (Sum.inr x1)) else some (Ctl.next (wr (x1 + 1)))) else some (Ctl.out (Sum.inl (()))))) s1
noncomputable def m_sIndex (l0 : List Int) (p1 : Int) : Option ((Int)) :=
 Option.bind (loopM (m_sIndex_s1 l0 p1) 0) fun (r1 : Sum (Unit) ((Int))) => match r1 with | Sum.inl q1 => (some ((-1))) | Sum.inr v1 => some v1

noncomputable def m_sConta (l0 : List Int) (p1 : Int) : Option Bool :=
 (m_sIndex l0 p1).bind fun y1 => some (decide (y1 ≥ 0))

def m_iNewOr (p0 : Int) : Option (((List Int) × (List Int))) :=
 Option.bind ((mkC p0).bind fun _ => (mkC p0).bind fun _ => some ((List.replicate (Int.toNat p0) ((0 : Int)), List.replicate (Int.toNat p0) ((0 : Int))))) fun (s1 : (List Int) × (List Int)) => match s1 with | (l1, l2) => some ((l1, l2))

def m_iOrderFewes1 (R_impl_order_fewest : (List Int) → (List Int) → (Int) → (List (Int × Int)) → Option ((Int) × (List (Int × Int)))) (p0 : Int) (q1_0 : Int) (l2_0 : List Int) (l2_1 : List Int) (q3_0 : Int) (l4_0 : List (Int × Int)) : Option ((Int) × (List (Int × Int))) :=
 Option.bind (R_impl_order_fewest l2_0 l2_1 (andNI q3_0 p0) l4_0) fun y1 => some ((if (wr (y1.1 + 1)) < q1_0 then (wr (y1.1 + 1)) else q1_0, y1.2))

def m_iOrderFirst1_f_s2 (R : (Int) → (Int) → (Int) → (List Int) → (List Int) → (Int) → (List (Int × Int)) → (List Int) → (List Int) → (List Int) → Option ((Int) × (List (Int × Int)))) (p1 : Int) (l2_0_1_0 : List Int) (l2_0_1_1 : List Int) (q2_0_2_0 : Int) (l3_0 : List Int) (l4_0 : List Int) (l4_1 : List Int) (s1 : Int × Int × (List (Int × Int))) : Option (Ctl (Int × Int × (List (Int × Int))) (Int × (List (Int × Int)))) :=
 match s1 with | (x1, x2, l1) => (bif decide (x1 < (l3_0.length : Int)) then Option.bind ((geti l3_0 x1).bind fun x3 => (geti l4_0 x3).bind fun x4 => (bif (andI x4 p1) == 0 then (geti l3_0 x1).bind fun x5 => (p0C x5).bind fun u1 => Option.bind (R (wr (x1 + 1)) (orI p1 (shlI 1 x5)) x2 l2_0_1_0 l2_0_1_1 q2_0_2_0 l1 l3_0 l4_0 l4_1) fun y1 => some ((y1.1, y1.2)) else some ((x2, l1)))) fun (s2 : Int × (List (Int × Int))) => match s2 with | (x6, l2) => some (Ctl.next ((wr (x1 + 1), x6, l2))) else some (Ctl.out ((x2, l1))))
noncomputable def m_iOrderFirst1_f_b (R_impl_order_fewest : (List Int) → (List Int) → (Int) → (List (Int × Int)) → Option ((Int) × (List (Int × Int)))) (R : (Int) → (Int) → (Int) → (List Int) → (List Int) → (Int) → (List (Int × Int)) → (List Int) → (List Int) → (List Int) → Option ((Int) × (List (Int × Int)))) (p0 : Int) (p1 : Int) (q2_0_0_0 : Int) (l2_0_1_0 : List Int) (l2_0_1_1 : List Int) (q2_0_2_0 : Int) (l2_0_3_0 : List (Int × Int)) (l3_0 : List Int) (l4_0 : List Int) (l4_1 : List Int) : Option ((Int) × (List (Int × Int))) :=
 Option.bind (Option.bind ((bif p1 != 0 then (m_iOrderFewes1 R_impl_order_fewest p1 q2_0_0_0 l2_0_1_0 l2_0_1_1 q2_0_2_0 l2_0_3_0).bind fun y2 => some ((y2.1, y2.2)) else some ((q2_0_0_0, l2_0_3_0)))) fun (s3 : Int × (List (Int × Int))) => match s3 with | (x7, l3) => Option.bind (loopM (m_iOrderFirst1_f_s2 R p1 l2_0_1_0 l2_0_1_1 q2_0_2_0 l3_0 l4_0 l4_1) ((p0, x7, l3))) fun (r1 : Int × (List (Int × Int))) => match r1 with | (x8, l4) => some ((x8, l4))) fun (s4 : Int × (List (Int × Int))) => match s4 with | (x9, l5) => some ((x9, l5))
noncomputable def m_iOrderFirst1_f (R_impl_order_fewest : (List Int) → (List Int) → (Int) → (List (Int × Int)) → Option ((Int) × (List (Int × Int)))) : Nat → (Int) → (Int) → (Int) → (List Int) → (List Int) → (Int) → (List (Int × Int)) → (List Int) → (List Int) → (List Int) → Option ((Int) × (List (Int × Int)))
 | 0, _, _, _, _, _, _, _, _, _, _ => none
 | n + 1, p0, p1, q2_0_0_0, l2_0_1_0, l2_0_1_1, q2_0_2_0, l2_0_3_0, l3_0, l4_0, l4_1 => m_iOrderFirst1_f_b R_impl_order_fewest (m_iOrderFirst1_f R_impl_order_fewest n) p0 p1 q2_0_0_0 l2_0_1_0 l2_0_1_1 q2_0_2_0 l2_0_3_0 l3_0 l4_0 l4_1

noncomputable def m_iOrderFirst3_s1 (l0_0 : List Int) (l0_1 : List Int) (p1 : Int) (s1 : Int × (List Int)) : Option (Ctl (Int × (List Int)) ((List Int))) :=
 match s1 with | (x1, l1) => (bif decide (x1 < (l0_0.length : Int)) then Option.bind ((p0C x1).bind fun u1 => (bif (andI (shrI p1 x1) 1) == 1 then (geti l0_1 x1).bind fun x2 => (bif (andI x2 p1) == 0 then Option.bind (apC l1 (([x1] : List Int))) fun _ => some (l1 ++ (([x1] : List Int))) else some l1) else some l1)) fun (s2 : (List Int)) => (fun (l2 : List Int) => some (Ctl.next ((wr (x1 + 1), l2)))) s2 else some (Ctl.out l1))
noncomputable def m_iOrderFirst3 (R_impl_order_fewest : (List Int) → (List Int) → (Int) → (List (Int × Int)) → Option ((Int) × (List (Int × Int)))) (l0_0 : List Int) (l0_1 : List Int) (p1 : Int) (q2_0_0 : Int) (l2_1_0 : List Int) (l2_1_1 : List Int) (q2_2_0 : Int) (l2_3_0 : List (Int × Int)) : Option ((Int) × (List (Int × Int))) :=
 Option.bind (loopM (m_iOrderFirst3_s1 l0_0 l0_1 p1) ((0, ([] : List Int)))) fun (r1 : (List Int)) => (fun (l3 : List Int) => (m_iOrderFirst1_f R_impl_order_fewest 64 0 0 q2_0_0 l2_1_0 l2_1_1 q2_2_0 l2_3_0 l3 l0_0 l0_1).bind fun y1 => some ((y1.1, y1.2))) r1

noncomputable def m_iOrderFewes_b (R : (List Int) → (List Int) → (Int) → (List (Int × Int)) → Option ((Int) × (List (Int × Int)))) (l0_0 : List Int) (l0_1 : List Int) (p1 : Int) (l2 : List (Int × Int)) : Option ((Int) × (List (Int × Int))) :=
 (bif p1 == 0 then some ((0, l2)) else Option.bind (mpC (okI p1)) fun _ => (bif (mget l2 p1).isSome then some (((mget l2 p1).getD 0, l2)) else Option.bind (m_iOrderFirst3 R l0_0 l0_1 p1 (wr ((l0_0.length : Int) + 1)) l0_0 l0_1 p1 l2) fun y1 => Option.bind (mpC (okI p1)) fun _ => some ((y1.1, mup y1.2 p1 y1.1))))
noncomputable def m_iOrderFewes : Nat → (List Int) → (List Int) → (Int) → (List (Int × Int)) → Option ((Int) × (List (Int × Int)))
 | 0, _, _, _, _ => none
 | n + 1, l0_0, l0_1, p1, l2 => m_iOrderFewes_b (m_iOrderFewes n) l0_0 l0_1 p1 l2

noncomputable def m_iOrderBest1 (p0 : Int) (q1_0 : Int) (l2_0 : List Int) (l2_1 : List Int) (q3_0 : Int) (l4_0 : List (Int × Int)) (q5_0 : Int) : Option ((Int) × (List (Int × Int))) :=
 Option.bind ((bif q1_0 == 0 then (m_iOrderFewes 64 l2_0 l2_1 (andNI q3_0 p0) l4_0).bind fun y1 => (bif y1.1 == q5_0 then some ((p0, y1.2)) else some ((q1_0, y1.2))) else some ((q1_0, l4_0)))) fun (s1 : Int × (List (Int × Int))) => match s1 with | (x1, l1) => some ((x1, l1))

noncomputable def m_iOrderFirst_f_s2 (R : (Int) → (Int) → (Int) → (List Int) → (List Int) → (Int) → (List (Int × Int)) → (Int) → (List Int) → (List Int) → (List Int) → Option ((Int) × (List (Int × Int)))) (p1 : Int) (l2_0_1_0 : List Int) (l2_0_1_1 : List Int) (q2_0_2_0 : Int) (q2_0_4_0 : Int) (l3_0 : List Int) (l4_0 : List Int) (l4_1 : List Int) (s1 : Int × Int × (List (Int × Int))) : Option (Ctl (Int × Int × (List (Int × Int))) (Int × (List (Int × Int)))) :=
 match s1 with | (x1, x2, l1) => (bif decide (x1 < (l3_0.length : Int)) then Option.bind ((geti l3_0 x1).bind fun x3 => (geti l4_0 x3).bind fun x4 => (bif (andI x4 p1) == 0 then (geti l3_0 x1).bind fun x5 => (p0C x5).bind fun u1 => Option.bind (R (wr (x1 + 1)) (orI p1 (shlI 1 x5)) x2 l2_0_1_0 l2_0_1_1 q2_0_2_0 l1 q2_0_4_0 l3_0 l4_0 l4_1) fun y1 => some ((y1.1, y1.2)) else some ((x2, l1)))) fun (s2 : Int × (List (Int × Int))) => match s2 with | (x6, l2) => some (Ctl.next ((wr (x1 + 1), x6, l2))) else some (Ctl.out ((x2, l1))))
noncomputable def m_iOrderFirst_f_b (R : (Int) → (Int) → (Int) → (List Int) → (List Int) → (Int) → (List (Int × Int)) → (Int) → (List Int) → (List Int) → (List Int) → Option ((Int) × (List (Int × Int)))) (p0 : Int) (p1 : Int) (q2_0_0_0 : Int) (l2_0_1_0 : List Int) (l2_0_1_1 : List Int) (q2_0_2_0 : Int) (l2_0_3_0 : List (Int × Int)) (q2_0_4_0 : Int) (l3_0 : List Int) (l4_0 : List Int) (l4_1 : List Int) : Option ((Int) × (List (Int × Int))) :=
 Option.bind (Option.bind ((bif p1 != 0 then (m_iOrderBest1 p1 q2_0_0_0 l2_0_1_0 l2_0_1_1 q2_0_2_0 l2_0_3_0 q2_0_4_0).bind fun y2 => some ((y2.1, y2.2)) else some ((q2_0_0_0, l2_0_3_0)))) fun (s3 : Int × (List (Int × Int))) => match s3 with | (x7, l3) => Option.bind (loopM (m_iOrderFirst_f_s2 R p1 l2_0_1_0 l2_0_1_1 q2_0_2_0 q2_0_4_0 l3_0 l4_0 l4_1) ((p0, x7, l3))) fun (r1 : Int × (List (Int × Int))) => match r1 with | (x8, l4) => some ((x8, l4))) fun (s4 : Int × (List (Int × Int))) => match s4 with | (x9, l5) => some ((x9, l5))
noncomputable def m_iOrderFirst_f : Nat → (Int) → (Int) → (Int) → (List Int) → (List Int) → (Int) → (List (Int × Int)) → (Int) → (List Int) → (List Int) → (List Int) → Option ((Int) × (List (Int × Int)))
 | 0, _, _, _, _, _, _, _, _, _, _, _ => none
 | n + 1, p0, p1, q2_0_0_0, l2_0_1_0, l2_0_1_1, q2_0_2_0, l2_0_3_0, q2_0_4_0, l3_0, l4_0, l4_1 => m_iOrderFirst_f_b (m_iOrderFirst_f n) p0 p1 q2_0_0_0 l2_0_1_0 l2_0_1_1 q2_0_2_0 l2_0_3_0 q2_0_4_0 l3_0 l4_0 l4_1

noncomputable def m_iOrderFirst2_s1 (l0_0 : List Int) (l0_1 : List Int) (p1 : Int) (s1 : Int × (List Int)) : Option (Ctl (Int × (List Int)) ((List Int))) :=
 match s1 with | (x1, l1) => (bif decide (x1 < (l0_0.length : Int)) then Option.bind ((p0C x1).bind fun u1 => (bif (andI (shrI p1 x1) 1) == 1 then (geti l0_1 x1).bind fun x2 => (bif (andI x2 p1) == 0 then Option.bind (apC l1 (([x1] : List Int))) fun _ => some (l1 ++ (([x1] : List Int))) else some l1) else some l1)) fun (s2 : (List Int)) => (fun (l2 : List Int) => some (Ctl.next ((wr (x1 + 1), l2)))) s2 else some (Ctl.out l1))
noncomputable def m_iOrderFirst2 (l0_0 : List Int) (l0_1 : List Int) (p1 : Int) (q2_0_0 : Int) (l2_1_0 : List Int) (l2_1_1 : List Int) (q2_2_0 : Int) (l2_3_0 : List (Int × Int)) (q2_4_0 : Int) : Option ((Int) × (List (Int × Int))) :=
 Option.bind (loopM (m_iOrderFirst2_s1 l0_0 l0_1 p1) ((0, ([] : List Int)))) fun (r1 : (List Int)) => (fun (l3 : List Int) => (m_iOrderFirst_f 64 0 0 q2_0_0 l2_1_0 l2_1_1 q2_2_0 l2_3_0 q2_4_0 l3 l0_0 l0_1).bind fun y1 => some ((y1.1, y1.2))) r1

noncomputable def m_mTrail (p0 : Int) : Option ((Int)) :=
 (m_mTrail1 p0).bind fun y1 => some y1

noncomputable def m_iOrderBest_s4  (s1 : (List Int) × Int) : Option (Ctl ((List Int) × Int) ((List Int))) :=
 match s1 with | (l1, x1) => (bif x1 != 0 then (m_mTrail (wu x1)).bind fun y1 => Option.bind (apC l1 (([y1] : List Int))) fun _ => some (Ctl.next ((l1 ++ (([y1] : List Int)), andI x1 (wr (x1 - 1))))) else some (Ctl.out l1))
noncomputable def m_iOrderBest_s3 (l0_0 : List Int) (l0_1 : List Int) (s2 : (List (List Int)) × (List (Int × Int)) × Int) : Option (Ctl ((List (List Int)) × (List (Int × Int)) × Int) ((List (List Int)))) :=
 match s2 with | (l2, l3, x2) => (bif x2 != 0 then (m_iOrderFewes 64 l0_0 l0_1 x2 l3).bind fun y2 => Option.bind (m_iOrderFirst2 l0_0 l0_1 x2 0 l0_0 l0_1 x2 y2.2 (wr (y2.1 - 1))) fun y3 => Option.bind (loopM (m_iOrderBest_s4) ((([] : List Int), y3.1))) fun (r1 : (List Int)) => (fun (l4 : List Int) => Option.bind (apC l2 (([l4] : List (List Int)))) fun _ => some (Ctl.next ((l2 ++ (([l4] : List (List Int))), y3.2, andNI x2 y3.1)))) r1 else some (Ctl.out l2))
noncomputable def m_iOrderBest (l0_0 : List Int) (l0_1 : List Int) : Option ((List (List Int)) × (Bool)) :=
 Option.bind ((p0C (l0_0.length : Int)).bind fun u1 => some ((([] : List (Int × Int)), wr ((shlI 1 (l0_0.length : Int)) - 1)))) fun (s3 : (List (Int × Int)) × Int) => match s3 with | (l5, x3) => (m_iOrderFewes 64 l0_0 l0_1 x3 l5).bind fun y4 => (bif decide (y4.1 > (l0_0.length : Int)) then some (([], false)) else Option.bind (loopM (m_iOrderBest_s3 l0_0 l0_1) ((([] : List (List Int)), y4.2, x3))) fun (r2 : (List (List Int))) => (fun (l6 : List (List Int)) => some ((l6, true))) r2)

def m_iChannColum_s1 (l0_0 : List Int) (l0_1 : List Int) (p1 : Int) (s1 : (List Int) × Int) : Option (Ctl ((List Int) × Int) ((List Int))) :=
 match s1 with | (l1, x1) => (bif decide (x1 < (l0_0.length : Int)) then Option.bind ((geti l0_0 x1).bind fun x2 => (bif x2 == p1 then Option.bind (apC l1 (([x1] : List Int))) fun _ => some (l1 ++ (([x1] : List Int))) else (geti l0_1 x1).bind fun x3 => (bif x3 == p1 then Option.bind (apC l1 (([x1] : List Int))) fun _ => some (l1 ++ (([x1] : List Int))) else some l1))) fun (s2 : (List Int)) => (fun (l2 : List Int) => some (Ctl.next ((l2, wr (x1 + 1))))) s2 else some (Ctl.out l1))
noncomputable def m_iChannColum (l0_0 : List Int) (l0_1 : List Int) (p1 : Int) : Option ((List Int)) :=
 Option.bind (loopM (m_iChannColum_s1 l0_0 l0_1 p1) ((([] : List Int), 0))) fun (r1 : (List Int)) => (fun (l3 : List Int) => some l3) r1

noncomputable def m_iChannNets_s1 (l0_0 : List Int) (l0_1 : List Int) (s1 : (List Int) × Int) : Option (Ctl ((List Int) × Int) ((List Int))) :=
 match s1 with | (l1, x1) => (bif decide (x1 ≤ 12) then Option.bind ((m_iChannColum l0_0 l0_1 x1).bind fun y1 => (bif decide ((y1.length : Int) > 1) then Option.bind (apC l1 (([x1] : List Int))) fun _ => some (l1 ++ (([x1] : List Int))) else some l1)) fun (s2 : (List Int)) => (fun (l2 : List Int) => some (Ctl.next ((l2, wr (x1 + 1))))) s2 else some (Ctl.out l1))
noncomputable def m_iChannNets (l0_0 : List Int) (l0_1 : List Int) : Option ((List Int)) :=
 Option.bind (loopM (m_iChannNets_s1 l0_0 l0_1) ((([] : List Int), 1))) fun (r1 : (List Int)) => (fun (l3 : List Int) => some l3) r1

noncomputable def m_iChannAbove1_s1 (l0_0 : List Int) (l0_1 : List Int) (y1 : (List Int)) (s1 : Int × (List ((Int × Int) × Bool))) : Option (Ctl (Int × (List ((Int × Int) × Bool))) ((List ((Int × Int) × Bool)))) :=
 match s1 with | (x1, l1) => (bif decide (x1 < (l0_0.length : Int)) then Option.bind ((geti l0_0 x1).bind fun x2 => (geti l0_1 x1).bind fun x3 => (bif x2 != x3 then (m_sConta y1 x2).bind fun y2 => (bif y2 then (m_sConta y1 x3).bind fun y3 => (bif y3 then Option.bind (mpC (okII ((x2, x3)))) fun _ => some (mup l1 ((x2, x3)) true) else some l1) else some l1) else some l1)) fun (s2 : (List ((Int × Int) × Bool))) => (fun (l2 : List ((Int × Int) × Bool)) => some (Ctl.next ((wr (x1 + 1), l2)))) s2 else some (Ctl.out l1))
noncomputable def m_iChannAbove1 (l0_0 : List Int) (l0_1 : List Int) : Option ((List ((Int × Int) × Bool))) :=
 (m_iChannNets l0_0 l0_1).bind fun y1 => Option.bind (loopM (m_iChannAbove1_s1 l0_0 l0_1 y1) ((0, ([] : List ((Int × Int) × Bool))))) fun (r1 : (List ((Int × Int) × Bool))) => (fun (l3 : List ((Int × Int) × Bool)) => some l3) r1

noncomputable def m_iChannSpan (l0_0 : List Int) (l0_1 : List Int) (p1 : Int) : Option ((Int) × (Int)) :=
 (m_iChannColum l0_0 l0_1 p1).bind fun y1 => (geti y1 0).bind fun x1 => Option.bind (geti y1 (wr ((y1.length : Int) - 1))) fun x2 => some ((x1, x2))

noncomputable def m_iChannNetOr_s4 (l0_0 : List Int) (l0_1 : List Int) (y1 : (List Int)) (y2 : (List ((Int × Int) × Bool))) (x1 : Int) (x2 : Int) (y3 : (Int) × (Int)) (s1 : Int × (List Int) × (List Int)) : Option (Ctl (Int × (List Int) × (List Int)) ((List Int) × (List Int))) :=
 match s1 with | (x3, l1, l2) => (bif decide (x3 < (y1.length : Int)) then Option.bind ((geti y1 x3).bind fun x4 => (m_iChannSpan l0_0 l0_1 x4).bind fun y4 => Option.bind ((bif x1 != x3 then (bif decide (y3.1 ≤ y4.2) then (bif decide (y4.1 ≤ y3.2) then (geti l1 x1).bind fun x5 => (p0C x3).bind fun u1 => (geti l1 x1).bind fun x6 => some (l1.set (Int.toNat x1) (orI x5 (shlI 1 x3))) else some l1) else some l1) else some l1)) fun (s2 : (List Int)) => (fun (l3 : List Int) => Option.bind (mgC (okII ((x2, x4))) false y2 ((x2, x4))) fun y5 => (bif y5 then (geti l2 x3).bind fun x7 => (p0C x1).bind fun u2 => (geti l2 x3).bind fun x8 => some ((l3, l2.set (Int.toNat x3) (orI x7 (shlI 1 x1)))) else some ((l3, l2)))) s2) fun (s3 : (List Int) × (List Int)) => match s3 with | (l4, l5) => some (Ctl.next ((wr (x3 + 1), l4, l5))) else some (Ctl.out ((l1, l2))))
noncomputable def m_iChannNetOr_s3 (l0_0 : List Int) (l0_1 : List Int) (y1 : (List Int)) (y2 : (List ((Int × Int) × Bool))) (s4 : Int × (List Int) × (List Int)) : Option (Ctl (Int × (List Int) × (List Int)) ((List Int) × (List Int))) :=
 match s4 with | (x1, l6, l7) => (bif decide (x1 < (y1.length : Int)) then (geti y1 x1).bind fun x2 => (m_iChannSpan l0_0 l0_1 x2).bind fun y3 => Option.bind (loopM (m_iChannNetOr_s4 l0_0 l0_1 y1 y2 x1 x2 y3) ((0, l6, l7))) fun (r1 : (List Int) × (List Int)) => match r1 with | (l8, l9) => some (Ctl.next ((wr (x1 + 1), l8, l9))) else some (Ctl.out ((l6, l7))))
noncomputable def m_iChannNetOr (l0_0 : List Int) (l0_1 : List Int) : Option (((List Int) × (List Int))) :=
 (m_iChannNets l0_0 l0_1).bind fun y1 => (m_iChannAbove1 l0_0 l0_1).bind fun y2 => (m_iNewOr (y1.length : Int)).bind fun y6 => Option.bind (loopM (m_iChannNetOr_s3 l0_0 l0_1 y1 y2) ((0, y6.1, y6.2))) fun (r2 : (List Int) × (List Int)) => match r2 with | (l10, l11) => some ((l10, l11))

def m_iFewes1 (p0 : Int) (l1_0 : List Int) : Option ((Int)) :=
 (geti l1_0 p0).bind fun x1 => some x1

def m_iToldTFewes_s4 (l1_0_0 : List Int) (x1 : List Int) (s1 : (List Int) × Int) : Option (Ctl ((List Int) × Int) ((List Int))) :=
 match s1 with | (l1, x2) => (bif decide (x2 < (x1.length : Int)) then (geti x1 x2).bind fun x3 => (m_iFewes1 x3 l1_0_0).bind fun y1 => Option.bind (apC l1 (([y1] : List Int))) fun _ => some (Ctl.next ((l1 ++ (([y1] : List Int)), wr (x2 + 1)))) else some (Ctl.out l1))
noncomputable def m_iToldTFewes_s3 (l0 : List (List Int)) (l1_0_0 : List Int) (s2 : (List (List Int)) × Int) : Option (Ctl ((List (List Int)) × Int) ((List (List Int)))) :=
 match s2 with | (l2, x4) => (bif decide (x4 < (l0.length : Int)) then (geti l0 x4).bind fun x1 => Option.bind (loopM (m_iToldTFewes_s4 l1_0_0 x1) ((([] : List Int), 0))) fun (r1 : (List Int)) => (fun (l3 : List Int) => Option.bind (apC l2 (([l3] : List (List Int)))) fun _ => some (Ctl.next ((l2 ++ (([l3] : List (List Int))), wr (x4 + 1))))) r1 else some (Ctl.out l2))
noncomputable def m_iToldTFewes (l0 : List (List Int)) (l1_0_0 : List Int) : Option ((List (List Int))) :=
 Option.bind (loopM (m_iToldTFewes_s3 l0 l1_0_0) ((([] : List (List Int)), 0))) fun (r2 : (List (List Int))) => (fun (l4 : List (List Int)) => some l4) r2

noncomputable def m_iFewes (l0_0 : List Int) (l0_1 : List Int) : Option ((List (List Int)) × (Bool)) :=
 (m_iValid l0_0 l0_1).bind fun y1 => (bif !y1 then some (([], false)) else (m_iChannNetOr l0_0 l0_1).bind fun y2 => (m_iOrderBest y2.1 y2.2).bind fun y3 => (bif !y3.2 then some (([], false)) else (m_iChannNets l0_0 l0_1).bind fun y4 => (m_iToldTFewes y3.1 y4).bind fun y5 => some ((y5, true))))

def m_sIndex1_s1 (l0 : List Int) (p1 : Int) (s1 : Int) : Option (Ctl (Int) (Sum (Unit) ((Int)))) :=
 (fun (x1 : Int) => (bif decide (x1 < (l0.length : Int)) then (geti l0 x1).bind fun x2 => (bif p1 == x2 then some (Ctl.out (Sum.inr x1)) else some (Ctl.next (wr (x1 + 1)))) else some (Ctl.out (Sum.inl (()))))) s1
noncomputable def m_sIndex1 (l0 : List Int) (p1 : Int) : Option ((Int)) :=
 Option.bind (loopM (m_sIndex1_s1 l0 p1) 0) fun (r1 : Sum (Unit) ((Int))) => match r1 with | Sum.inl q1 => (some ((-1))) | Sum.inr v1 => some v1

noncomputable def m_sConta1 (l0 : List Int) (p1 : Int) : Option Bool :=
 (m_sIndex1 l0 p1).bind fun y1 => some (decide (y1 ≥ 0))

def m_mMul64 (p0 : Int) (p1 : Int) : Option ((Int) × (Int)) :=
 some ((wu ((wu ((wu ((shrU p0 32) * (shrU p1 32))) + (shrU (wu ((wu ((shrU p0 32) * (andU p1 4294967295))) + (shrU (wu ((andU p0 4294967295) * (andU p1 4294967295))) 32))) 32))) + (shrU (wu ((andU (wu ((wu ((shrU p0 32) * (andU p1 4294967295))) + (shrU (wu ((andU p0 4294967295) * (andU p1 4294967295))) 32))) 4294967295) + (wu ((andU p0 4294967295) * (shrU p1 32))))) 32)), wu (p0 * p1)))

def m_mMul (p0 : Int) (p1 : Int) : Option ((Int) × (Int)) :=
 (m_mMul64 p0 p1).bind fun y1 => some ((y1.1, y1.2))

def m_sRepea_s1  (s1 : Int × (List Int)) : Option (Ctl (Int × (List Int)) ((List Int))) :=
 match s1 with | (x1, l1) => (bif decide (x1 < (l1.length : Int)) then (slci l1 x1 (l1.length : Int)).bind fun y1 => (slci l1 0 x1).bind fun y2 => some (Ctl.next ((wr (x1 + (((min (y2).length ((cpy l1 x1 y2).length - Int.toNat x1) : Nat) : Int))), cpy l1 x1 y2))) else some (Ctl.out l1))
noncomputable def m_sRepea (l0 : List Int) (p1 : Int) : Option ((List Int)) :=
 Option.bind ((bif decide (p1 < 0) then none else some (()))) fun (s2 : Unit) => Option.bind (m_mMul (wu (l0.length : Int)) (wu p1)) fun y3 => Option.bind ((bif decide (y3.1 > 0) then none else (bif decide (y3.2 > 9223372036854775807) then none else some (())))) fun (s3 : Unit) => (mkC (wr y3.2)).bind fun _ => Option.bind (loopM (m_sRepea_s1) ((((min (l0).length ((cpy (List.replicate (Int.toNat (wr y3.2)) ((0 : Int))) 0 l0).length - Int.toNat 0) : Nat) : Int), cpy (List.replicate (Int.toNat (wr y3.2)) ((0 : Int))) 0 l0))) fun (r1 : (List Int)) => (fun (l2 : List Int) => some l2) r1

noncomputable def m_iGraphBack_s4 (l0 : List (List Int)) (s1 : (List Int) × Int × (List Int)) : Option (Ctl ((List Int) × Int × (List Int)) ((List Int) × (List Int))) :=
 match s1 with | (l1, x1, l2) => (bif decide (x1 < (l0.length : Int)) then Option.bind ((geti l0 x1).bind fun x2 => (geti l2 x1).bind fun x3 => (bif decide (x3 < 0) then (geti l1 0).bind fun x4 => (m_sConta1 x2 x4).bind fun y1 => (bif y1 then (geti l1 0).bind fun x5 => (geti l2 x5).bind fun x6 => (geti l2 x1).bind fun x7 => Option.bind (apC l1 (([x1] : List Int))) fun _ => some ((l1 ++ (([x1] : List Int)), l2.set (Int.toNat x1) (wr (x6 + 1)))) else some ((l1, l2))) else some ((l1, l2)))) fun (s2 : (List Int) × (List Int)) => match s2 with | (l3, l4) => some (Ctl.next ((l3, wr (x1 + 1), l4))) else some (Ctl.out ((l1, l2))))
noncomputable def m_iGraphBack_s3 (l0 : List (List Int)) (s3 : (List Int) × (List Int)) : Option (Ctl ((List Int) × (List Int)) ((List Int))) :=
 match s3 with | (l5, l6) => (bif decide ((l5.length : Int) > 0) then Option.bind (loopM (m_iGraphBack_s4 l0) ((l5, 0, l6))) fun (r1 : (List Int) × (List Int)) => match r1 with | (l7, l8) => (slci l7 1 (l7.length : Int)).bind fun _ => some (Ctl.next ((l7.drop (Int.toNat 1), l8))) else some (Ctl.out l6))
noncomputable def m_iGraphBack (l0 : List (List Int)) (p1 : Int) : Option ((List Int)) :=
 Option.bind (m_sRepea (([(-1)] : List Int)) (l0.length : Int)) fun y2 => (geti y2 p1).bind fun x8 => Option.bind (loopM (m_iGraphBack_s3 l0) ((([p1] : List Int), y2.set (Int.toNat p1) 0))) fun (r2 : (List Int)) => (fun (l9 : List Int) => some l9) r2

noncomputable def m_iGraphShort_s4 (x1 : List Int) (y1 : (List Int)) (s1 : Int × Int) : Option (Ctl (Int × Int) (Int)) :=
 match s1 with | (x2, x3) => (bif decide (x3 < (x1.length : Int)) then Option.bind ((geti x1 x3).bind fun x4 => (geti y1 x4).bind fun x5 => (bif decide (x5 ≥ 0) then (bif x2 == 0 then (geti y1 x4).bind fun x6 => some (wr (x6 + 1)) else (geti y1 x4).bind fun x7 => (bif decide ((wr (x7 + 1)) < x2) then (geti y1 x4).bind fun x8 => some (wr (x8 + 1)) else some x2)) else some x2)) fun (s2 : Int) => (fun (x9 : Int) => some (Ctl.next ((x9, wr (x3 + 1))))) s2 else some (Ctl.out x2))
noncomputable def m_iGraphShort_s3 (l0 : List (List Int)) (s3 : Int × Int) : Option (Ctl (Int × Int) (Int)) :=
 match s3 with | (x10, x11) => (bif decide (x11 < (l0.length : Int)) then (geti l0 x11).bind fun x1 => (m_iGraphBack l0 x11).bind fun y1 => Option.bind (loopM (m_iGraphShort_s4 x1 y1) ((x10, 0))) fun (r1 : Int) => (fun (x12 : Int) => some (Ctl.next ((x12, wr (x11 + 1))))) r1 else some (Ctl.out x10))
noncomputable def m_iGraphShort (l0 : List (List Int)) : Option ((Int)) :=
 Option.bind (loopM (m_iGraphShort_s3 l0) ((0, 0))) fun (r2 : Int) => (fun (x13 : Int) => some x13) r2

def m_iGraphRing1 (p0 : Int) (l1_0 : List Int) (q2_0 : Int) (l3_0 : List Int) (q4_0 : Int) : Option Bool :=
 (geti l1_0 p0).bind fun x1 => (bif decide (x1 ≥ 0) then (geti l1_0 p0).bind fun x2 => (bif decide (x2 ≤ (wr (q2_0 - (l3_0.length : Int)))) then some (p0 != q4_0) else some false) else some false)

def m_sIndexGraph_s1 (l0 : List Int) (l1_0_0 : List Int) (q1_1_0 : Int) (l1_2_0 : List Int) (q1_3_0 : Int) (s1 : Int) : Option (Ctl (Int) (Sum (Unit) ((Int)))) :=
 (fun (x1 : Int) => (bif decide (x1 < (l0.length : Int)) then (geti l0 x1).bind fun x2 => (m_iGraphRing1 x2 l1_0_0 q1_1_0 l1_2_0 q1_3_0).bind fun y1 => (bif y1 then some (Ctl.out (Sum.inr x1)) else some (Ctl.next (wr (x1 + 1)))) else some (Ctl.out (Sum.inl (()))))) s1
noncomputable def m_sIndexGraph (l0 : List Int) (l1_0_0 : List Int) (q1_1_0 : Int) (l1_2_0 : List Int) (q1_3_0 : Int) : Option ((Int)) :=
 Option.bind (loopM (m_sIndexGraph_s1 l0 l1_0_0 q1_1_0 l1_2_0 q1_3_0) 0) fun (r1 : Sum (Unit) ((Int))) => match r1 with | Sum.inl q1 => (some ((-1))) | Sum.inr v1 => some v1

noncomputable def m_iGraphRing_s4 (l0 : List (List Int)) (y1 : (Int)) (x1 : Int) (y2 : (List Int)) (s1 : (List Int)) : Option (Ctl ((List Int)) ((List Int))) :=
 (fun (l1 : List Int) => (bif decide ((l1.length : Int) < y1) then Option.bind (geti l1 (wr ((l1.length : Int) - 1))) fun x2 => (geti l0 x2).bind fun x3 => (m_sIndexGraph x3 y2 y1 l1 x1).bind fun y3 => (bif decide (y3 < 0) then some (Ctl.out l1) else Option.bind (geti l1 (wr ((l1.length : Int) - 1))) fun x4 => (geti l0 x4).bind fun x5 => (geti x5 y3).bind fun x6 => Option.bind (apC l1 (([x6] : List Int))) fun _ => some (Ctl.next (l1 ++ (([x6] : List Int))))) else some (Ctl.out l1))) s1
noncomputable def m_iGraphRing_s3 (l0 : List (List Int)) (y1 : (Int)) (s2 : Int) : Option (Ctl (Int) (Sum (Unit) ((List Int)))) :=
 (fun (x1 : Int) => (bif decide (x1 < (l0.length : Int)) then (m_iGraphBack l0 x1).bind fun y2 => Option.bind (loopM (m_iGraphRing_s4 l0 y1 x1 y2) (([x1] : List Int))) fun (r1 : (List Int)) => (fun (l2 : List Int) => (bif (l2.length : Int) == y1 then (bif decide (y1 > 0) then Option.bind (geti l2 (wr (y1 - 1))) fun x7 => (geti l0 x7).bind fun x8 => (m_sConta1 x8 x1).bind fun y4 => (bif y4 then some (Ctl.out (Sum.inr l2)) else some (Ctl.next (wr (x1 + 1)))) else some (Ctl.next (wr (x1 + 1)))) else some (Ctl.next (wr (x1 + 1))))) r1 else some (Ctl.out (Sum.inl (()))))) s2
noncomputable def m_iGraphRing (l0 : List (List Int)) : Option ((List Int)) :=
 (m_iGraphShort l0).bind fun y1 => Option.bind (loopM (m_iGraphRing_s3 l0 y1) 0) fun (r2 : Sum (Unit) ((List Int))) => match r2 with | Sum.inl q1 => (some ([])) | Sum.inr v1 => some v1

noncomputable def m_iChannAbove_s4 (y1 : (List ((Int × Int) × Bool))) (l1 : List (List Int)) (x1 : Int) (s1 : (List (List Int)) × Int) : Option (Ctl ((List (List Int)) × Int) ((List (List Int)))) :=
 match s1 with | (l2, x2) => (bif decide (x2 < (l1.length : Int)) then Option.bind (Option.bind (mgC (okII ((x1, x2))) false y1 ((x1, x2))) fun y2 => (bif y2 then (geti l2 x1).bind fun x3 => Option.bind (apC x3 (([x2] : List Int))) fun _ => some (l2.set (Int.toNat x1) (x3 ++ (([x2] : List Int)))) else some l2)) fun (s2 : (List (List Int))) => (fun (l3 : List (List Int)) => some (Ctl.next ((l3, wr (x2 + 1))))) s2 else some (Ctl.out l2))
noncomputable def m_iChannAbove_s3 (y1 : (List ((Int × Int) × Bool))) (s3 : (List (List Int)) × Int) : Option (Ctl ((List (List Int)) × Int) ((List (List Int)))) :=
 match s3 with | (l1, x1) => (bif decide (x1 < (((List.replicate (Int.toNat 13) ([] : List Int)).length : Int))) then Option.bind (loopM (m_iChannAbove_s4 y1 l1 x1) ((l1, 0))) fun (r1 : (List (List Int))) => (fun (l4 : List (List Int)) => some (Ctl.next ((l4, wr (x1 + 1))))) r1 else some (Ctl.out l1))
noncomputable def m_iChannAbove (l0_0 : List Int) (l0_1 : List Int) : Option ((List (List Int))) :=
 (mkC 13).bind fun _ => (m_iChannAbove1 l0_0 l0_1).bind fun y1 => Option.bind (loopM (m_iChannAbove_s3 y1) ((List.replicate (Int.toNat 13) ([] : List Int), 0))) fun (r2 : (List (List Int))) => (fun (l5 : List (List Int)) => some l5) r2

noncomputable def m_impl_CycleOf_s1 (y1 : (List Int)) (s1 : (List Int) × Int) : Option (Ctl ((List Int) × Int) ((List Int))) :=
 match s1 with | (l1, x1) => (bif decide (x1 < (y1.length : Int)) then (geti y1 x1).bind fun x2 => Option.bind (apC l1 (([x2] : List Int))) fun _ => some (Ctl.next ((l1 ++ (([x2] : List Int)), wr (x1 + 1)))) else some (Ctl.out l1))
noncomputable def m_impl_CycleOf (l0_0 : List Int) (l0_1 : List Int) : Option ((List Int) × (Bool)) :=
 (m_iValid l0_0 l0_1).bind fun y2 => (bif !y2 then some (([], false)) else (m_iChannAbove l0_0 l0_1).bind fun y3 => (m_iGraphRing y3).bind fun y1 => Option.bind (loopM (m_impl_CycleOf_s1 y1) ((([] : List Int), 0))) fun (r1 : (List Int)) => (fun (l2 : List Int) => some ((l2, decide ((l2.length : Int) > 0)))) r1)

noncomputable def m_iChannDensi_s1 (l0_0 : List Int) (l0_1 : List Int) (p1 : Int) (y1 : (List Int)) (s1 : Int × Int) : Option (Ctl (Int × Int) (Int)) :=
 match s1 with | (x1, x2) => (bif decide (x2 < (y1.length : Int)) then Option.bind ((geti y1 x2).bind fun x3 => (m_iChannSpan l0_0 l0_1 x3).bind fun y2 => (m_impl_in p1 y2.1 y2.2).bind fun y3 => (bif y3 then some (wr (x1 + 1)) else some x1)) fun (s2 : Int) => (fun (x4 : Int) => some (Ctl.next ((x4, wr (x2 + 1))))) s2 else some (Ctl.out x1))
noncomputable def m_iChannDensi (l0_0 : List Int) (l0_1 : List Int) (p1 : Int) : Option ((Int)) :=
 (m_iChannNets l0_0 l0_1).bind fun y1 => Option.bind (loopM (m_iChannDensi_s1 l0_0 l0_1 p1 y1) ((0, 0))) fun (r1 : Int) => (fun (x5 : Int) => some x5) r1

noncomputable def m_iDensi_s1 (l0_0 : List Int) (l0_1 : List Int) (s1 : Int × Int) : Option (Ctl (Int × Int) (Int)) :=
 match s1 with | (x1, x2) => (bif decide (x2 < (l0_0.length : Int)) then (m_iChannDensi l0_0 l0_1 x2).bind fun y1 => some (Ctl.next ((if y1 > x1 then y1 else x1, wr (x2 + 1)))) else some (Ctl.out x1))
noncomputable def m_iDensi (l0_0 : List Int) (l0_1 : List Int) : Option ((Int) × (Bool)) :=
 (m_iValid l0_0 l0_1).bind fun y2 => (bif !y2 then some ((0, false)) else Option.bind (loopM (m_iDensi_s1 l0_0 l0_1) ((0, 0))) fun (r1 : Int) => (fun (x3 : Int) => some ((x3, true))) r1)

def m_sMax_s1 (l0 : List Int) (s1 : Int × Int) : Option (Ctl (Int × Int) (Int)) :=
 match s1 with | (x1, x2) => (bif decide (x2 < (l0.length : Int)) then (geti l0 x2).bind fun x3 => some (Ctl.next ((if x3 > x1 then x3 else x1, wr (x2 + 1)))) else some (Ctl.out x1))
noncomputable def m_sMax (l0 : List Int) : Option ((Int)) :=
 Option.bind ((bif decide ((l0.length : Int) < 1) then none else some (()))) fun (s2 : Unit) => (geti l0 0).bind fun x4 => Option.bind (loopM (m_sMax_s1 l0) ((x4, 1))) fun (r1 : Int) => (fun (x5 : Int) => some x5) r1

noncomputable def m_iLonge_s13 (x1 : Int) (x2 : List Int) (s1 : Int × (List Int)) : Option (Ctl (Int × (List Int)) ((List Int))) :=
 match s1 with | (x3, l1) => (bif decide (x3 < (x2.length : Int)) then (geti x2 x3).bind fun x4 => (geti l1 x1).bind fun x5 => (geti l1 x4).bind fun x6 => (geti l1 x1).bind fun x7 => some (Ctl.next ((wr (x3 + 1), l1.set (Int.toNat x1) (if (wr (x6 + 1)) > x5 then (wr (x6 + 1)) else x5)))) else some (Ctl.out l1))
noncomputable def m_iLonge_s12 (y1 : (List (List Int))) (s2 : Int × (List Int)) : Option (Ctl (Int × (List Int)) ((List Int))) :=
 match s2 with | (x1, l2) => (bif decide (x1 < (y1.length : Int)) then (geti y1 x1).bind fun x2 => Option.bind (loopM (m_iLonge_s13 x1 x2) ((0, l2))) fun (r1 : (List Int)) => (fun (l3 : List Int) => some (Ctl.next ((wr (x1 + 1), l3)))) r1 else some (Ctl.out l2))
noncomputable def m_iLonge_s9 (y1 : (List (List Int))) (s3 : Int × (List Int)) : Option (Ctl (Int × (List Int)) ((List Int))) :=
 match s3 with | (x8, l4) => (bif decide (x8 < (y1.length : Int)) then Option.bind (loopM (m_iLonge_s12 y1) ((0, l4))) fun (r2 : (List Int)) => (fun (l5 : List Int) => some (Ctl.next ((wr (x8 + 1), l5)))) r2 else some (Ctl.out l4))
noncomputable def m_iLonge (l0_0 : List Int) (l0_1 : List Int) : Option ((Int) × (Bool)) :=
 (m_iValid l0_0 l0_1).bind fun y2 => (bif !y2 then some ((0, false)) else (m_iChannAbove l0_0 l0_1).bind fun y1 => (m_iGraphShort y1).bind fun y3 => (bif decide (y3 > 0) then some ((0, false)) else (mkC (y1.length : Int)).bind fun _ => Option.bind (loopM (m_iLonge_s9 y1) ((0, List.replicate (Int.toNat (y1.length : Int)) ((0 : Int))))) fun (r3 : (List Int)) => (fun (l6 : List Int) => (m_iChannNets l0_0 l0_1).bind fun y4 => (bif (y4.length : Int) == 0 then some ((0, true)) else (m_sMax l6).bind fun y5 => some ((wr (y5 + 1), true)))) r3))

def m_cCmpIsNaN (p0 : Int) : Option Bool :=
 some (p0 != p0)

def m_cCmpCompa (p0 : Int) (p1 : Int) : Option ((Int)) :=
 (m_cCmpIsNaN p0).bind fun y1 => (m_cCmpIsNaN p1).bind fun y2 => (bif y1 then (bif y2 then some 0 else some ((-1))) else (bif y2 then some 1 else (bif decide (p0 < p1) then some ((-1)) else (bif decide (p0 > p1) then some 1 else some 0))))

noncomputable def m_iLeftE1 (p0 : Int) (p1 : Int) (l2_0 : List Int) (l2_1 : List Int) : Option ((Int)) :=
 (m_iChannSpan l2_0 l2_1 p0).bind fun y1 => (m_iChannSpan l2_0 l2_1 p1).bind fun y2 => (m_cCmpCompa y1.1 y2.1).bind fun y3 => some y3

noncomputable def m_sInserLeftE_s4 (p1 : Int) (l3_0_0 : List Int) (l3_0_1 : List Int) (s1 : Int × (List Int)) : Option (Ctl (Int × (List Int)) ((List Int))) :=
 match s1 with | (x1, l1) => (bif decide (x1 > p1) then (geti l1 x1).bind fun x2 => Option.bind (geti l1 (wr (x1 - 1))) fun x3 => (m_iLeftE1 x2 x3 l3_0_0 l3_0_1).bind fun y1 => (bif decide (y1 < 0) then Option.bind (geti l1 (wr (x1 - 1))) fun x4 => (geti l1 x1).bind fun x5 => (geti l1 x1).bind fun x6 => Option.bind (geti (l1.set (Int.toNat x1) x4) (wr (x1 - 1))) fun x7 => some (Ctl.next ((wr (x1 - 1), (l1.set (Int.toNat x1) x4).set (Int.toNat (wr (x1 - 1))) x5))) else some (Ctl.out l1)) else some (Ctl.out l1))
noncomputable def m_sInserLeftE_s3 (p1 : Int) (p2 : Int) (l3_0_0 : List Int) (l3_0_1 : List Int) (s2 : Int × (List Int)) : Option (Ctl (Int × (List Int)) ((List Int))) :=
 match s2 with | (x8, l2) => (bif decide (x8 < p2) then Option.bind (loopM (m_sInserLeftE_s4 p1 l3_0_0 l3_0_1) ((x8, l2))) fun (r1 : (List Int)) => (fun (l3 : List Int) => some (Ctl.next ((wr (x8 + 1), l3)))) r1 else some (Ctl.out l2))
noncomputable def m_sInserLeftE (l0 : List Int) (p1 : Int) (p2 : Int) (l3_0_0 : List Int) (l3_0_1 : List Int) : Option ((List Int)) :=
 Option.bind (loopM (m_sInserLeftE_s3 p1 p2 l3_0_0 l3_0_1) ((wr (p1 + 1), l0))) fun (r2 : (List Int)) => (fun (l4 : List Int) => some l4) r2

noncomputable def m_sStablLeftE_s8 (p1 : Int) (x1 : Int) (s1 : Unit) : Option (Ctl (Unit) (Unit)) :=
 (bif decide ((wr (2 * x1)) ≤ p1) then none else some (Ctl.out (())))
noncomputable def m_sStablLeftE_s6 (p1 : Int) (s2 : Int) : Option (Ctl (Int) (Unit)) :=
 (fun (x1 : Int) => (bif decide (x1 < p1) then Option.bind (Option.bind (loopM (m_sStablLeftE_s8 p1 x1) (())) fun (r1 : Unit) => Option.bind ((bif decide ((wr (0 + x1)) < p1) then none else some (()))) fun (s3 : Unit) => some (wr (x1 * 2))) fun (s4 : Int) => (fun (x2 : Int) => some (Ctl.next x2)) s4 else some (Ctl.out (())))) s2
noncomputable def m_sStablLeftE_s1 (p1 : Int) (l2_0_0 : List Int) (l2_0_1 : List Int) (s5 : Int × Int × (List Int)) : Option (Ctl (Int × Int × (List Int)) (Int × (List Int))) :=
 match s5 with | (x3, x4, l1) => (bif decide (x4 ≤ p1) then (m_sInserLeftE l1 x3 x4 l2_0_0 l2_0_1).bind fun y1 => some (Ctl.next ((x4, wr (x4 + 20), y1))) else some (Ctl.out ((x3, l1))))
noncomputable def m_sStablLeftE (l0 : List Int) (p1 : Int) (l2_0_0 : List Int) (l2_0_1 : List Int) : Option ((List Int)) :=
 Option.bind (loopM (m_sStablLeftE_s1 p1 l2_0_0 l2_0_1) ((0, 20, l0))) fun (r2 : Int × (List Int)) => match r2 with | (x5, l2) => (m_sInserLeftE l2 x5 p1 l2_0_0 l2_0_1).bind fun y2 => Option.bind (loopM (m_sStablLeftE_s6 p1) 20) fun (r3 : Unit) => some y2

noncomputable def m_sSortSLeftE (l0 : List Int) (l1_0_0 : List Int) (l1_0_1 : List Int) : Option ((List Int)) :=
 (m_sStablLeftE l0 (l0.length : Int) l1_0_0 l1_0_1).bind fun y1 => some y1

noncomputable def m_iLeftE2 (p0 : Int) (l1_0 : List Int) (l1_1 : List Int) (q2_0 : Int) (l3_0 : List Int) : Option ((Bool) × (Int) × (List Int)) :=
 (m_iChannSpan l1_0 l1_1 p0).bind fun y1 => (bif decide (y1.1 ≤ q2_0) then some ((false, q2_0, l3_0)) else Option.bind (apC l3_0 (([p0] : List Int))) fun _ => some ((true, y1.2, l3_0 ++ (([p0] : List Int)))))

noncomputable def m_sIndexLeftE_s1 (l0 : List Int) (l1_0_0 : List Int) (l1_0_1 : List Int) (s1 : Int × Int × (List Int)) : Option (Ctl (Int × Int × (List Int)) (Sum (Int × (List Int)) ((Int) × (Int) × (List Int)))) :=
 match s1 with | (x1, x2, l1) => (bif decide (x1 < (l0.length : Int)) then (geti l0 x1).bind fun x3 => (m_iLeftE2 x3 l1_0_0 l1_0_1 x2 l1).bind fun y1 => (bif y1.1 then some (Ctl.out (Sum.inr ((x1, y1.2.1, y1.2.2)))) else some (Ctl.next ((wr (x1 + 1), y1.2.1, y1.2.2)))) else some (Ctl.out (Sum.inl ((x2, l1)))))
noncomputable def m_sIndexLeftE (l0 : List Int) (l1_0_0 : List Int) (l1_0_1 : List Int) (q1_1_0 : Int) (l1_2_0 : List Int) : Option ((Int) × (Int) × (List Int)) :=
 Option.bind (loopM (m_sIndexLeftE_s1 l0 l1_0_0 l1_0_1) ((0, q1_1_0, l1_2_0))) fun (r1 : Sum (Int × (List Int)) ((Int) × (Int) × (List Int))) => match r1 with | Sum.inl q1 => (match q1 with | (x4, l2) => some (((-1), x4, l2))) | Sum.inr v1 => some v1

noncomputable def m_sDeletLeftE_s1 (l1_0_0 : List Int) (l1_0_1 : List Int) (s1 : Int × Int × (List Int) × Int × (List Int)) : Option (Ctl (Int × Int × (List Int) × Int × (List Int)) (Int × (List Int) × Int × (List Int))) :=
 match s1 with | (x1, x2, l1, x3, l2) => (bif decide (x2 < (l1.length : Int)) then Option.bind ((geti l1 x2).bind fun x4 => (m_iLeftE2 x4 l1_0_0 l1_0_1 x3 l2).bind fun y1 => (bif !y1.1 then (geti l1 x1).bind fun x5 => some ((wr (x1 + 1), l1.set (Int.toNat x1) x4, y1.2.1, y1.2.2)) else some ((x1, l1, y1.2.1, y1.2.2)))) fun (s2 : Int × (List Int) × Int × (List Int)) => match s2 with | (x6, l3, x7, l4) => some (Ctl.next ((x6, wr (x2 + 1), l3, x7, l4))) else some (Ctl.out ((x1, l1, x3, l2))))
noncomputable def m_sDeletLeftE (l0 : List Int) (l1_0_0 : List Int) (l1_0_1 : List Int) (q1_1_0 : Int) (l1_2_0 : List Int) : Option ((List Int) × (Int) × (List Int)) :=
 (m_sIndexLeftE l0 l1_0_0 l1_0_1 q1_1_0 l1_2_0).bind fun y2 => (bif y2.1 == ((-1)) then some ((l0, y2.2.1, y2.2.2)) else Option.bind (loopM (m_sDeletLeftE_s1 l1_0_0 l1_0_1) ((y2.1, wr (y2.1 + 1), l0, y2.2.1, y2.2.2))) fun (r1 : Int × (List Int) × Int × (List Int)) => match r1 with | (x8, l5, x9, l6) => (slci l5 x8 (l5.length : Int)).bind fun _ => Option.bind (slci (clr (0 : Int) l5 x8) 0 x8) fun _ => some (((clr (0 : Int) l5 x8).take (Int.toNat x8), x9, l6)))

noncomputable def m_iLeftE_s1 (l0_0 : List Int) (l0_1 : List Int) (s1 : (List (List Int)) × (List Int)) : Option (Ctl ((List (List Int)) × (List Int)) ((List (List Int)))) :=
 match s1 with | (l1, l2) => (bif decide ((l2.length : Int) > 0) then Option.bind (m_sDeletLeftE l2 l0_0 l0_1 ((-1)) (([] : List Int))) fun y1 => (m_sSort y1.2.2).bind fun y2 => Option.bind (apC l1 (([y2] : List (List Int)))) fun _ => some (Ctl.next ((l1 ++ (([y2] : List (List Int))), y1.1))) else some (Ctl.out l1))
noncomputable def m_iLeftE (l0_0 : List Int) (l0_1 : List Int) : Option ((List (List Int)) × (Bool)) :=
 (m_iValid l0_0 l0_1).bind fun y3 => (bif !y3 then some (([], false)) else (m_iChannAbove1 l0_0 l0_1).bind fun y4 => (bif decide ((y4.length : Int) > 0) then some (([], false)) else (m_iChannNets l0_0 l0_1).bind fun y5 => (m_sSortSLeftE y5 l0_0 l0_1).bind fun y6 => Option.bind (loopM (m_iLeftE_s1 l0_0 l0_1) ((([] : List (List Int)), y6))) fun (r1 : (List (List Int))) => (fun (l3 : List (List Int)) => some ((l3, true))) r1))

noncomputable def m_impl_NetsOf (l0_0 : List Int) (l0_1 : List Int) : Option ((List Int) × (Bool)) :=
 (m_iValid l0_0 l0_1).bind fun y1 => (bif !y1 then some (([], false)) else (m_iChannNets l0_0 l0_1).bind fun y2 => some ((y2, true)))

noncomputable def m_iMustB (l0_0 : List Int) (l0_1 : List Int) (p1 : Int) (p2 : Int) : Option Bool :=
 (m_iValid l0_0 l0_1).bind fun y1 => (bif y1 then (m_iChannAbove1 l0_0 l0_1).bind fun y2 => Option.bind (mgC (okII ((p1, p2))) false y2 ((p1, p2))) fun y3 => some y3 else some false)

def m_laws_b10Has_s1 (l0 : List Int) (p1 : Int) (s1 : Int) : Option (Ctl (Int) (Sum (Unit) Bool)) :=
 (fun (x1 : Int) => (bif decide (x1 < (l0.length : Int)) then (geti l0 x1).bind fun x2 => (bif x2 == p1 then some (Ctl.out (Sum.inr true)) else some (Ctl.next (wr (x1 + 1)))) else some (Ctl.out (Sum.inl (()))))) s1
noncomputable def m_laws_b10Has (l0 : List Int) (p1 : Int) : Option Bool :=
 Option.bind (loopM (m_laws_b10Has_s1 l0 p1) 0) fun (r1 : Sum (Unit) Bool) => match r1 with | Sum.inl q1 => (some false) | Sum.inr v1 => some v1

def m_spec_l00Put_s1 (l0 : List Int) (p1 : Int) (s1 : (List Int) × Bool × Int) : Option (Ctl ((List Int) × Bool × Int) ((List Int) × Bool)) :=
 match s1 with | (l1, x1, x2) => (bif decide (x2 < (l0.length : Int)) then Option.bind (Option.bind ((bif !x1 then (geti l0 x2).bind fun x3 => (bif decide (x3 ≥ p1) then (geti l0 x2).bind fun x4 => (bif decide (x4 > p1) then Option.bind (apC l1 (([p1] : List Int))) fun _ => some ((l1 ++ (([p1] : List Int)), true)) else some ((l1, true))) else some ((l1, x1))) else some ((l1, x1)))) fun (s2 : (List Int) × Bool) => match s2 with | (l2, x5) => (geti l0 x2).bind fun x6 => Option.bind (apC l2 (([x6] : List Int))) fun _ => some ((l2 ++ (([x6] : List Int)), x5))) fun (s3 : (List Int) × Bool) => match s3 with | (l3, x7) => some (Ctl.next ((l3, x7, wr (x2 + 1)))) else some (Ctl.out ((l1, x1))))
noncomputable def m_spec_l00Put (l0 : List Int) (p1 : Int) : Option ((List Int)) :=
 Option.bind (loopM (m_spec_l00Put_s1 l0 p1) ((([] : List Int), false, 0))) fun (r1 : (List Int) × Bool) => match r1 with | (l4, x8) => Option.bind ((bif !x8 then Option.bind (apC l4 (([p1] : List Int))) fun _ => some (l4 ++ (([p1] : List Int))) else some l4)) fun (s4 : (List Int)) => (fun (l5 : List Int) => some l5) s4

def m_sL03Sp_s1 (l0_0 : List Int) (l0_1 : List Int) (p1 : Int) (s1 : Int × Int × Int) : Option (Ctl (Int × Int × Int) (Int × Int)) :=
 match s1 with | (x1, x2, x3) => (bif decide (x3 < (l0_0.length : Int)) then Option.bind ((geti l0_0 x3).bind fun x4 => (bif x4 == p1 then Option.bind ((bif decide (x1 < 0) then some x3 else some x1)) fun (s2 : Int) => (fun (x5 : Int) => some ((x5, x3))) s2 else (geti l0_1 x3).bind fun x6 => (bif x6 == p1 then Option.bind ((bif decide (x1 < 0) then some x3 else some x1)) fun (s3 : Int) => (fun (x7 : Int) => some ((x7, x3))) s3 else some ((x1, x2))))) fun (s4 : Int × Int) => match s4 with | (x8, x9) => some (Ctl.next ((x8, x9, wr (x3 + 1)))) else some (Ctl.out ((x1, x2))))
noncomputable def m_sL03Sp (l0_0 : List Int) (l0_1 : List Int) (p1 : Int) : Option ((Int) × (Int) × (Bool)) :=
 Option.bind (loopM (m_sL03Sp_s1 l0_0 l0_1 p1) (((-1), (-1), 0))) fun (r1 : Int × Int) => match r1 with | (x10, x11) => some ((x10, x11, decide (x10 ≥ 0)))

noncomputable def m_sL03Ne_s1 (l0_0 : List Int) (l0_1 : List Int) (s1 : (List Int) × Int) : Option (Ctl ((List Int) × Int) ((List Int))) :=
 match s1 with | (l1, x1) => (bif decide (x1 ≤ 12) then Option.bind ((m_sL03Sp l0_0 l0_1 x1).bind fun y1 => (bif y1.2.2 then (bif decide (y1.1 < y1.2.1) then Option.bind (apC l1 (([x1] : List Int))) fun _ => some (l1 ++ (([x1] : List Int))) else some l1) else some l1)) fun (s2 : (List Int)) => (fun (l2 : List Int) => some (Ctl.next ((l2, wr (x1 + 1))))) s2 else some (Ctl.out l1))
noncomputable def m_sL03Ne (l0_0 : List Int) (l0_1 : List Int) : Option ((List Int)) :=
 Option.bind (loopM (m_sL03Ne_s1 l0_0 l0_1) ((([] : List Int), 1))) fun (r1 : (List Int)) => (fun (l3 : List Int) => some l3) r1

def m_sL00SrOne (l0_0 : List Int) (q0_1 : Int) (q0_2 : Int) (p1 : Int) : Option ((Bool) × (Int) × (Int)) :=
 (m_sL00SrPick l0_0 q0_1 q0_2 p1).bind fun y1 => some ((y1.1 == 0, y1.2.1, y1.2.2))

noncomputable def m_sB10Tr_s2 (l0 : List Int) (l1 : List Int) (s1 : (List (List Int)) × Int × Int × Int) : Option (Ctl ((List (List Int)) × Int × Int × Int) ((List (List Int)))) :=
 match s1 with | (l2, x1, x2, x3) => (bif decide (x1 < (l1.length : Int)) then Option.bind ((bif decide ((l2.length : Int) > 0) then (m_sL00SrOne l0 x2 x3 3).bind fun y1 => (bif y1.1 then Option.bind (geti l2 (wr ((l2.length : Int) - 1))) fun x4 => (geti l1 x1).bind fun x5 => (m_spec_l00Put x4 x5).bind fun y2 => Option.bind (geti l2 (wr ((l2.length : Int) - 1))) fun x6 => some ((l2.set (Int.toNat (wr ((l2.length : Int) - 1))) y2, y1.2.1, y1.2.2)) else (geti l1 x1).bind fun x7 => Option.bind (apC l2 (([([x7] : List Int)] : List (List Int)))) fun _ => some ((l2 ++ (([([x7] : List Int)] : List (List Int))), y1.2.1, y1.2.2))) else (geti l1 x1).bind fun x8 => Option.bind (apC l2 (([([x8] : List Int)] : List (List Int)))) fun _ => some ((l2 ++ (([([x8] : List Int)] : List (List Int))), x2, x3)))) fun (s2 : (List (List Int)) × Int × Int) => match s2 with | (l3, x9, x10) => some (Ctl.next ((l3, wr (x1 + 1), x9, x10))) else some (Ctl.out l2))
noncomputable def m_sB10Tr_s1 (l0 : List Int) (s3 : Int × Int × Int × (List Int)) : Option (Ctl (Int × Int × Int × (List Int)) (Int × Int × (List Int))) :=
 match s3 with | (x11, x12, x13, l4) => (bif decide (x11 > 0) then Option.bind (m_sL00SrPick l0 x12 x13 (wr (x11 + 1))) fun y3 => (geti l4 x11).bind fun x14 => (geti l4 y3.1).bind fun x15 => (geti l4 x11).bind fun x16 => Option.bind (geti (l4.set (Int.toNat x11) x15) y3.1) fun x17 => some (Ctl.next ((wr (x11 - 1), y3.2.1, y3.2.2, (l4.set (Int.toNat x11) x15).set (Int.toNat y3.1) x14))) else some (Ctl.out ((x12, x13, l4))))
noncomputable def m_sB10Tr (l0 : List Int) (l1_0 : List Int) (l1_1 : List Int) : Option ((List (List Int))) :=
 (m_spec_l00From l0).bind fun y4 => (m_sL03Ne l1_0 l1_1).bind fun y5 => Option.bind (loopM (m_sB10Tr_s1 l0) ((wr ((y5.length : Int) - 1), y4.1, y4.2, y5))) fun (r1 : Int × Int × (List Int)) => match r1 with | (x18, x19, l1) => Option.bind (loopM (m_sB10Tr_s2 l0 l1) ((([] : List (List Int)), 0, x18, x19))) fun (r2 : (List (List Int))) => (fun (l5 : List (List Int)) => some l5) r2

noncomputable def m_impl_places_s4 (l1 : List Int) (x1 : List Int) (s1 : (List Int) × Int) : Option (Ctl ((List Int) × Int) (Sum ((List Int)) ((List (List Int)) × (Bool)))) :=
 match s1 with | (l2, x2) => (bif decide (x2 < (x1.length : Int)) then (geti x1 x2).bind fun x3 => (m_sIndex l1 x3).bind fun y1 => (bif decide (y1 < 0) then some (Ctl.out (Sum.inr (([], false)))) else Option.bind (apC l2 (([y1] : List Int))) fun _ => some (Ctl.next ((l2 ++ (([y1] : List Int)), wr (x2 + 1))))) else some (Ctl.out (Sum.inl l2)))
noncomputable def m_impl_places_s3 (l0 : List (List Int)) (l1 : List Int) (s2 : (List (List Int)) × Int) : Option (Ctl ((List (List Int)) × Int) (Sum ((List (List Int))) ((List (List Int)) × (Bool)))) :=
 match s2 with | (l3, x4) => (bif decide (x4 < (l0.length : Int)) then (geti l0 x4).bind fun x1 => Option.bind (loopM (m_impl_places_s4 l1 x1) ((([] : List Int), 0))) fun (r1 : Sum ((List Int)) ((List (List Int)) × (Bool))) => match r1 with | Sum.inl q1 => ((fun (l4 : List Int) => Option.bind (apC l3 (([l4] : List (List Int)))) fun _ => some (Ctl.next ((l3 ++ (([l4] : List (List Int))), wr (x4 + 1))))) q1) | Sum.inr v1 => some (Ctl.out (Sum.inr v1)) else some (Ctl.out (Sum.inl l3)))
noncomputable def m_impl_places (l0 : List (List Int)) (l1 : List Int) : Option ((List (List Int)) × (Bool)) :=
 Option.bind (loopM (m_impl_places_s3 l0 l1) ((([] : List (List Int)), 0))) fun (r2 : Sum ((List (List Int))) ((List (List Int)) × (Bool))) => match r2 with | Sum.inl q2 => ((fun (l5 : List (List Int)) => some ((l5, true))) q2) | Sum.inr v2 => some v2

def m_iOrderSetsO_s7 (l0_1 : List Int) (x1 : Int) (x2 : List Int) (s1 : Int) : Option (Ctl (Int) (Sum (Unit) Bool)) :=
 (fun (x3 : Int) => (bif decide (x3 < (x2.length : Int)) then (geti x2 x3).bind fun x4 => (geti l0_1 x4).bind fun x5 => (bif (andNI x5 x1) != 0 then some (Ctl.out (Sum.inr false)) else some (Ctl.next (wr (x3 + 1)))) else some (Ctl.out (Sum.inl (()))))) s1
def m_iOrderSetsO_s6 (l0_0 : List Int) (x1 : Int) (x2 : List Int) (s2 : Int × Int) : Option (Ctl (Int × Int) (Sum (Int) Bool)) :=
 match s2 with | (x6, x7) => (bif decide (x7 < (x2.length : Int)) then (geti x2 x7).bind fun x8 => (bif decide (x7 > 0) then Option.bind (geti x2 (wr (x7 - 1))) fun x9 => (bif decide (x9 ≥ x8) then some (Ctl.out (Sum.inr false)) else (p0C x8).bind fun u1 => (bif (andI (shrI x1 x8) 1) == 1 then some (Ctl.out (Sum.inr false)) else (geti l0_0 x8).bind fun x10 => (bif (andI x10 x6) != 0 then some (Ctl.out (Sum.inr false)) else (p0C x8).bind fun u2 => some (Ctl.next ((orI x6 (shlI 1 x8), wr (x7 + 1))))))) else (p0C x8).bind fun u3 => (bif (andI (shrI x1 x8) 1) == 1 then some (Ctl.out (Sum.inr false)) else (geti l0_0 x8).bind fun x11 => (bif (andI x11 x6) != 0 then some (Ctl.out (Sum.inr false)) else (p0C x8).bind fun u4 => some (Ctl.next ((orI x6 (shlI 1 x8), wr (x7 + 1))))))) else some (Ctl.out (Sum.inl x6)))
noncomputable def m_iOrderSetsO_s5 (l0_0 : List Int) (l0_1 : List Int) (l1 : List (List Int)) (s3 : Int × Int) : Option (Ctl (Int × Int) (Sum (Int) Bool)) :=
 match s3 with | (x1, x12) => (bif decide (x12 < (l1.length : Int)) then (geti l1 x12).bind fun x2 => Option.bind (loopM (m_iOrderSetsO_s6 l0_0 x1 x2) ((0, 0))) fun (r1 : Sum (Int) Bool) => match r1 with | Sum.inl q1 => ((fun (x13 : Int) => (bif x13 == 0 then some (Ctl.out (Sum.inr false)) else Option.bind (loopM (m_iOrderSetsO_s7 l0_1 x1 x2) 0) fun (r2 : Sum (Unit) Bool) => match r2 with | Sum.inl q2 => (some (Ctl.next ((orI x1 x13, wr (x12 + 1))))) | Sum.inr v1 => some (Ctl.out (Sum.inr v1)))) q1) | Sum.inr v2 => some (Ctl.out (Sum.inr v2)) else some (Ctl.out (Sum.inl x1)))
noncomputable def m_iOrderSetsO (l0_0 : List Int) (l0_1 : List Int) (l1 : List (List Int)) : Option Bool :=
 Option.bind (loopM (m_iOrderSetsO_s5 l0_0 l0_1 l1) ((0, 0))) fun (r3 : Sum (Int) Bool) => match r3 with | Sum.inl q3 => ((fun (x14 : Int) => (p0C (l0_0.length : Int)).bind fun u5 => some (x14 == (wr ((shlI 1 (l0_0.length : Int)) - 1)))) q3) | Sum.inr v3 => some v3

noncomputable def m_iIsRou (l0_0 : List Int) (l0_1 : List Int) (l1 : List (List Int)) : Option Bool :=
 (m_iValid l0_0 l0_1).bind fun y1 => (bif !y1 then some false else (m_iChannNets l0_0 l0_1).bind fun y2 => (m_impl_places l1 y2).bind fun y3 => (bif y3.2 then (m_iChannNetOr l0_0 l0_1).bind fun y4 => (m_iOrderSetsO y4.1 y4.2 y3.1).bind fun y5 => some y5 else some false))

def m_spec_l00In (p0 : Int) (p1 : Int) (p2 : Int) : Option Bool :=
 (bif decide (p0 ≥ p1) then some (decide (p0 ≤ p2)) else some false)

def m_spec_l00Has_s1 (l0 : List Int) (p1 : Int) (s1 : Int) : Option (Ctl (Int) (Sum (Unit) Bool)) :=
 (fun (x1 : Int) => (bif decide (x1 < (l0.length : Int)) then (geti l0 x1).bind fun x2 => (bif x2 == p1 then some (Ctl.out (Sum.inr true)) else some (Ctl.next (wr (x1 + 1)))) else some (Ctl.out (Sum.inl (()))))) s1
noncomputable def m_spec_l00Has (l0 : List Int) (p1 : Int) : Option Bool :=
 Option.bind (loopM (m_spec_l00Has_s1 l0 p1) 0) fun (r1 : Sum (Unit) Bool) => match r1 with | Sum.inl q1 => (some false) | Sum.inr v1 => some v1

def m_sL03Is_s2 (l1 : List Int) (s1 : Int) : Option (Ctl (Int) (Sum (Unit) Bool)) :=
 (fun (x1 : Int) => (bif decide (x1 < (l1.length : Int)) then (geti l1 x1).bind fun x2 => (bif x2 == 1 then some (Ctl.out (Sum.inr false)) else some (Ctl.next (wr (x1 + 1)))) else some (Ctl.out (Sum.inl (()))))) s1
noncomputable def m_sL03Is_s1 (l0_0 : List Int) (l0_1 : List Int) (s2 : Int × (List Int)) : Option (Ctl (Int × (List Int)) (Sum ((List Int)) Bool)) :=
 match s2 with | (x3, l2) => (bif decide (x3 < (l0_0.length : Int)) then (geti l0_0 x3).bind fun x4 => (m_spec_l00In x4 0 12).bind fun y1 => (bif !y1 then some (Ctl.out (Sum.inr false)) else (geti l0_1 x3).bind fun x5 => (m_spec_l00In x5 0 12).bind fun y2 => (bif !y2 then some (Ctl.out (Sum.inr false)) else (geti l0_0 x3).bind fun x6 => (geti l2 x6).bind fun x7 => (geti l2 x6).bind fun x8 => (geti l0_1 x3).bind fun x9 => Option.bind (geti (l2.set (Int.toNat x6) (wr (x7 + 1))) x9) fun x10 => Option.bind (geti (l2.set (Int.toNat x6) (wr (x7 + 1))) x9) fun x11 => some (Ctl.next ((wr (x3 + 1), (l2.set (Int.toNat x6) (wr (x7 + 1))).set (Int.toNat x9) (wr (x10 + 1))))))) else some (Ctl.out (Sum.inl l2)))
noncomputable def m_sL03Is (l0_0 : List Int) (l0_1 : List Int) : Option Bool :=
 (bif decide ((l0_0.length : Int) < 1) then some false else (bif decide ((l0_0.length : Int) > 24) then some false else (bif (l0_1.length : Int) != (l0_0.length : Int) then some false else (mkC 13).bind fun _ => Option.bind (loopM (m_sL03Is_s1 l0_0 l0_1) ((0, List.replicate (Int.toNat 13) ((0 : Int))))) fun (r1 : Sum ((List Int)) Bool) => match r1 with | Sum.inl q1 => ((fun (l1 : List Int) => Option.bind (loopM (m_sL03Is_s2 l1) 1) fun (r2 : Sum (Unit) Bool) => match r2 with | Sum.inl q2 => (some true) | Sum.inr v1 => some v1) q1) | Sum.inr v2 => some v2)))

noncomputable def m_sL03Ab_s1 (l0_0 : List Int) (l0_1 : List Int) (p1 : Int) (p2 : Int) (s1 : Int) : Option (Ctl (Int) (Sum (Unit) Bool)) :=
 (fun (x1 : Int) => (bif decide (x1 < (l0_0.length : Int)) then (geti l0_0 x1).bind fun x2 => (bif x2 == p1 then (geti l0_1 x1).bind fun x3 => (bif x3 == p2 then some (Ctl.out (Sum.inr true)) else some (Ctl.next (wr (x1 + 1)))) else some (Ctl.next (wr (x1 + 1)))) else some (Ctl.out (Sum.inl (()))))) s1
noncomputable def m_sL03Ab (l0_0 : List Int) (l0_1 : List Int) (p1 : Int) (p2 : Int) : Option Bool :=
 (bif p1 == p2 then some false else (bif p1 == 0 then some false else (bif p2 == 0 then some false else (m_sL03Ne l0_0 l0_1).bind fun y1 => (m_spec_l00Has y1 p1).bind fun y2 => (bif !y2 then some false else (m_spec_l00Has y1 p2).bind fun y3 => (bif !y3 then some false else Option.bind (loopM (m_sL03Ab_s1 l0_0 l0_1 p1 p2) 0) fun (r1 : Sum (Unit) Bool) => match r1 with | Sum.inl q1 => (some false) | Sum.inr v1 => some v1)))))

noncomputable def m_sL03Of_s4 (l0_0 : List Int) (l0_1 : List Int) (y1 : (List Int)) (x1 : Int) (y2 : (Int) × (Int) × (Bool)) (s1 : Int × (List (Bool)) × (List (Bool))) : Option (Ctl (Int × (List (Bool)) × (List (Bool))) ((List (Bool)) × (List (Bool)))) :=
 match s1 with | (x2, l1, l2) => (bif decide (x2 < (y1.length : Int)) then (geti y1 x2).bind fun x3 => (m_sL03Sp l0_0 l0_1 x3).bind fun y3 => (bif x1 != x2 then (bif decide (y2.1 ≤ y3.2.1) then (geti l1 x2).bind fun x4 => (geti y1 x1).bind fun x5 => (geti y1 x2).bind fun x6 => (m_sL03Ab l0_0 l0_1 x5 x6).bind fun y4 => (geti l2 x2).bind fun x7 => some (Ctl.next ((wr (x2 + 1), l1.set (Int.toNat x2) (decide (y3.1 ≤ y2.2.1)), l2.set (Int.toNat x2) y4))) else (geti l1 x2).bind fun x8 => (geti y1 x1).bind fun x9 => (geti y1 x2).bind fun x10 => (m_sL03Ab l0_0 l0_1 x9 x10).bind fun y5 => (geti l2 x2).bind fun x11 => some (Ctl.next ((wr (x2 + 1), l1.set (Int.toNat x2) false, l2.set (Int.toNat x2) y5)))) else (geti l1 x2).bind fun x12 => (geti y1 x1).bind fun x13 => (geti y1 x2).bind fun x14 => (m_sL03Ab l0_0 l0_1 x13 x14).bind fun y6 => (geti l2 x2).bind fun x15 => some (Ctl.next ((wr (x2 + 1), l1.set (Int.toNat x2) false, l2.set (Int.toNat x2) y6)))) else some (Ctl.out ((l1, l2))))
noncomputable def m_sL03Of_s3 (l0_0 : List Int) (l0_1 : List Int) (y1 : (List Int)) (s2 : Int × (List (List (Bool))) × (List (List (Bool)))) : Option (Ctl (Int × (List (List (Bool))) × (List (List (Bool)))) ((List (List (Bool))) × (List (List (Bool))))) :=
 match s2 with | (x1, l3, l4) => (bif decide (x1 < (y1.length : Int)) then (geti y1 x1).bind fun x16 => (m_sL03Sp l0_0 l0_1 x16).bind fun y2 => (mkC (y1.length : Int)).bind fun _ => (mkC (y1.length : Int)).bind fun _ => Option.bind (loopM (m_sL03Of_s4 l0_0 l0_1 y1 x1 y2) ((0, List.replicate (Int.toNat (y1.length : Int)) ((false : Bool)), List.replicate (Int.toNat (y1.length : Int)) ((false : Bool))))) fun (r1 : (List (Bool)) × (List (Bool))) => match r1 with | (l5, l6) => Option.bind (apC l3 (([l5] : List (List (Bool))))) fun _ => Option.bind (apC l4 (([l6] : List (List (Bool))))) fun _ => some (Ctl.next ((wr (x1 + 1), l3 ++ (([l5] : List (List (Bool)))), l4 ++ (([l6] : List (List (Bool))))))) else some (Ctl.out ((l3, l4))))
noncomputable def m_sL03Of (l0_0 : List Int) (l0_1 : List Int) : Option (((List Int) × (List (List (Bool))) × (List (List (Bool))))) :=
 (m_sL03Ne l0_0 l0_1).bind fun y1 => Option.bind (loopM (m_sL03Of_s3 l0_0 l0_1 y1) ((0, ([] : List (List (Bool))), ([] : List (List (Bool)))))) fun (r2 : (List (List (Bool))) × (List (List (Bool)))) => match r2 with | (l7, l8) => some ((y1, l7, l8))

def m_sL03Tr_s21 (l0_0 : List Int) (l1 : List (List Int)) (x1 : Int) (x2 : Int) (s1 : Int) : Option (Ctl (Int) (Int)) :=
 (fun (x3 : Int) => (bif decide (x3 < (l0_0.length : Int)) then (geti l0_0 x3).bind fun x4 => (geti l1 x1).bind fun x5 => (geti x5 x2).bind fun x6 => (bif x4 != x6 then some (Ctl.next (wr (x3 + 1))) else some (Ctl.out x3)) else some (Ctl.out x3))) s1
def m_sL03Tr_s22 (l0_0 : List Int) (l1 : List (List Int)) (x1 : Int) (x2 : Int) (s2 : Int) : Option (Ctl (Int) (Int)) :=
 (fun (x7 : Int) => (bif decide (x7 < (l0_0.length : Int)) then (geti l0_0 x7).bind fun x8 => (geti l1 x1).bind fun x9 => (geti x9 x2).bind fun x10 => (bif x8 != x10 then some (Ctl.next (wr (x7 + 1))) else some (Ctl.out x7)) else some (Ctl.out x7))) s2
noncomputable def m_sL03Tr_s20 (l0_0 : List Int) (l1 : List (List Int)) (x1 : Int) (s3 : Int × Int × (List Int)) : Option (Ctl (Int × Int × (List Int)) (Sum (Int × (List Int)) Bool)) :=
 match s3 with | (x11, x2, l2) => (geti l1 x1).bind fun x12 => (bif decide (x2 < (x12.length : Int)) then (bif decide (x2 > 0) then (geti l1 x1).bind fun x13 => Option.bind (geti x13 (wr (x2 - 1))) fun x14 => (geti l1 x1).bind fun x15 => (geti x15 x2).bind fun x16 => (bif decide (x14 ≥ x16) then some (Ctl.out (Sum.inr false)) else Option.bind (loopM (m_sL03Tr_s21 l0_0 l1 x1 x2) 0) fun (r1 : Int) => (fun (x17 : Int) => (bif x17 == (l0_0.length : Int) then some (Ctl.out (Sum.inr false)) else (geti l2 x17).bind fun x18 => (bif decide (x18 > 0) then some (Ctl.out (Sum.inr false)) else (geti l2 x17).bind fun x19 => some (Ctl.next ((wr (x11 + 1), wr (x2 + 1), l2.set (Int.toNat x17) (wr (x1 + 1)))))))) r1) else Option.bind (loopM (m_sL03Tr_s22 l0_0 l1 x1 x2) 0) fun (r2 : Int) => (fun (x20 : Int) => (bif x20 == (l0_0.length : Int) then some (Ctl.out (Sum.inr false)) else (geti l2 x20).bind fun x21 => (bif decide (x21 > 0) then some (Ctl.out (Sum.inr false)) else (geti l2 x20).bind fun x22 => some (Ctl.next ((wr (x11 + 1), wr (x2 + 1), l2.set (Int.toNat x20) (wr (x1 + 1)))))))) r2) else some (Ctl.out (Sum.inl ((x11, l2)))))
def m_sL03Tr_s26 (l0_0 : List Int) (l0_1 : List (List (Bool))) (l0_2 : List (List (Bool))) (l3 : List Int) (x23 : Int) (s4 : Int) : Option (Ctl (Int) (Sum (Unit) Bool)) :=
 (fun (x24 : Int) => (bif decide (x24 < (l0_0.length : Int)) then (geti l0_1 x23).bind fun x25 => (geti x25 x24).bind fun x26 => (bif x26 then (geti l3 x23).bind fun x27 => (geti l3 x24).bind fun x28 => (bif x27 == x28 then some (Ctl.out (Sum.inr false)) else (geti l0_2 x23).bind fun x29 => (geti x29 x24).bind fun x30 => (bif x30 then (geti l3 x23).bind fun x31 => (geti l3 x24).bind fun x32 => (bif decide (x31 ≥ x32) then some (Ctl.out (Sum.inr false)) else some (Ctl.next (wr (x24 + 1)))) else some (Ctl.next (wr (x24 + 1))))) else (geti l0_2 x23).bind fun x33 => (geti x33 x24).bind fun x34 => (bif x34 then (geti l3 x23).bind fun x35 => (geti l3 x24).bind fun x36 => (bif decide (x35 ≥ x36) then some (Ctl.out (Sum.inr false)) else some (Ctl.next (wr (x24 + 1)))) else some (Ctl.next (wr (x24 + 1))))) else some (Ctl.out (Sum.inl (()))))) s4
noncomputable def m_sL03Tr_s25 (l0_0 : List Int) (l0_1 : List (List (Bool))) (l0_2 : List (List (Bool))) (l3 : List Int) (s5 : Int) : Option (Ctl (Int) (Sum (Unit) Bool)) :=
 (fun (x23 : Int) => (bif decide (x23 < (l0_0.length : Int)) then Option.bind (loopM (m_sL03Tr_s26 l0_0 l0_1 l0_2 l3 x23) 0) fun (r3 : Sum (Unit) Bool) => match r3 with | Sum.inl q1 => (some (Ctl.next (wr (x23 + 1)))) | Sum.inr v1 => some (Ctl.out (Sum.inr v1)) else some (Ctl.out (Sum.inl (()))))) s5
noncomputable def m_sL03Tr_s15 (l0_0 : List Int) (l1 : List (List Int)) (s6 : Int × Int × (List Int)) : Option (Ctl (Int × Int × (List Int)) (Sum (Int × (List Int)) Bool)) :=
 match s6 with | (x37, x1, l4) => (bif decide (x1 < (l1.length : Int)) then (geti l1 x1).bind fun x38 => (bif (x38.length : Int) == 0 then some (Ctl.out (Sum.inr false)) else Option.bind (loopM (m_sL03Tr_s20 l0_0 l1 x1) ((x37, 0, l4))) fun (r4 : Sum (Int × (List Int)) Bool) => match r4 with | Sum.inl q2 => (match q2 with | (x39, l5) => some (Ctl.next ((x39, wr (x1 + 1), l5)))) | Sum.inr v2 => some (Ctl.out (Sum.inr v2))) else some (Ctl.out (Sum.inl ((x37, l4)))))
noncomputable def m_sL03Tr (l0_0 : List Int) (l0_1 : List (List (Bool))) (l0_2 : List (List (Bool))) (l1 : List (List Int)) : Option Bool :=
 (mkC (l0_0.length : Int)).bind fun _ => Option.bind (loopM (m_sL03Tr_s15 l0_0 l1) ((0, 0, List.replicate (Int.toNat (l0_0.length : Int)) ((0 : Int))))) fun (r5 : Sum (Int × (List Int)) Bool) => match r5 with | Sum.inl q3 => (match q3 with | (x40, l3) => Option.bind (loopM (m_sL03Tr_s25 l0_0 l0_1 l0_2 l3) 0) fun (r6 : Sum (Unit) Bool) => match r6 with | Sum.inl q4 => (some (x40 == (l0_0.length : Int))) | Sum.inr v3 => some v3) | Sum.inr v4 => some v4

noncomputable def m_sIsRou (l0_0 : List Int) (l0_1 : List Int) (l1 : List (List Int)) : Option Bool :=
 (m_sL03Is l0_0 l0_1).bind fun y1 => (bif y1 then (m_sL03Of l0_0 l0_1).bind fun y2 => (m_sL03Tr y2.1 y2.2.1 y2.2.2 l1).bind fun y3 => some y3 else some false)

noncomputable def m_lFnCha_s4 (y1 : ((List Int) × (List Int))) (y2 : (List Int) × (Bool)) (x1 : Int) (s1 : Bool × Int) : Option (Ctl (Bool × Int) (Bool)) :=
 match s1 with | (x2, x3) => (bif decide (x3 < (((y2.1).length : Int))) then (bif x2 then (geti y2.1 x1).bind fun x4 => (geti y2.1 x3).bind fun x5 => (m_iMustB y1.1 y1.2 x4 x5).bind fun y3 => some (Ctl.next ((!y3, wr (x3 + 1)))) else some (Ctl.next ((false, wr (x3 + 1))))) else some (Ctl.out x2))
noncomputable def m_lFnCha_s5 (y1 : ((List Int) × (List Int))) (y4 : (List Int) × (Bool)) (s2 : Int) : Option (Ctl (Int) (Sum (Unit) Bool)) :=
 (fun (x6 : Int) => (bif decide (x6 < (((y4.1).length : Int))) then (geti y4.1 x6).bind fun x7 => Option.bind (nzC (((y4.1).length : Int))) fun u1 => Option.bind (geti y4.1 (Int.tmod (wr (x6 + 1)) (((y4.1).length : Int)))) fun x8 => (m_iMustB y1.1 y1.2 x7 x8).bind fun y5 => (bif !y5 then some (Ctl.out (Sum.inr false)) else (slci y4.1 0 x6).bind fun y6 => (geti y4.1 x6).bind fun x9 => (m_laws_b10Has y6 x9).bind fun y7 => (bif y7 then some (Ctl.out (Sum.inr false)) else some (Ctl.next (wr (x6 + 1))))) else some (Ctl.out (Sum.inl (()))))) s2
noncomputable def m_lFnCha_s3 (y1 : ((List Int) × (List Int))) (y2 : (List Int) × (Bool)) (s3 : Bool × Int) : Option (Ctl (Bool × Int) (Bool)) :=
 match s3 with | (x10, x1) => (bif decide (x1 < (((y2.1).length : Int))) then Option.bind (loopM (m_lFnCha_s4 y1 y2 x1) ((x10, 0))) fun (r1 : Bool) => (fun (x11 : Bool) => some (Ctl.next ((x11, wr (x1 + 1))))) r1 else some (Ctl.out x10))
noncomputable def m_lFnCha (l0 : List Int) (l1 : List Int) : Option Bool :=
 (m_laws_b10Long l0 l1).bind fun y8 => (bif y8 then some true else (m_sB10Ch l0).bind fun y1 => (m_iFewes y1.1 y1.2).bind fun y9 => (m_impl_CycleOf y1.1 y1.2).bind fun y4 => (m_iDensi y1.1 y1.2).bind fun y10 => (m_iLonge y1.1 y1.2).bind fun y11 => (m_iLeftE y1.1 y1.2).bind fun y12 => (m_impl_NetsOf y1.1 y1.2).bind fun y2 => (bif !y10.2 then some false else (bif !y2.2 then some false else (bif y9.2 == y4.2 then some false else (bif !(y11.2 == y9.2) then some false else Option.bind (loopM (m_lFnCha_s3 y1 y2) ((true, 0))) fun (r2 : Bool) => (fun (x12 : Bool) => (bif !(x12 == y12.2) then some false else (bif y4.2 then Option.bind (loopM (m_lFnCha_s5 y1 y4) 0) fun (r3 : Sum (Unit) Bool) => match r3 with | Sum.inl q1 => (some (decide ((((y4.1).length : Int)) ≥ 2))) | Sum.inr v1 => some v1 else (m_sB10Tr l1 y1.1 y1.2).bind fun y13 => (m_iIsRou y1.1 y1.2 y9.1).bind fun y14 => (bif !y14 then some false else (bif decide ((((y9.1).length : Int)) < y10.1) then some false else (bif decide ((((y9.1).length : Int)) < y11.1) then some false else (m_sIsRou y1.1 y1.2 y13).bind fun y15 => (bif y15 then (bif decide ((y13.length : Int) < (((y9.1).length : Int))) then some false else (bif !y12.2 then some true else (bif (((y12.1).length : Int)) == y10.1 then (m_iIsRou y1.1 y1.2 y12.1).bind fun y16 => some y16 else some false))) else (bif !y12.2 then some true else (bif (((y12.1).length : Int)) == y10.1 then (m_iIsRou y1.1 y1.2 y12.1).bind fun y17 => some y17 else some false))))))))) r2)))))

end Go.Proofs.YtbfjekmefcpkmaaDoor
