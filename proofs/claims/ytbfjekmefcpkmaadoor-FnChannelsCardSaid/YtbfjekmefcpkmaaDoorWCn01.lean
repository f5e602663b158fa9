/- Printed walks: laws.b10Long, spec.l00From, (*spec.l00Src).next, (*spec.l00Src).pick, spec.l03DrawSized, spec.B10Channel, impl.in, slices.Grow[[]int64,int64], slices.Concat[[]int64,int64], impl.ValidChannel, slices.Index[[]int64,int64], slices.Contains[[]int64,int64], impl.newOrder, (impl.order).fewest$1, (impl.order).first$1, (impl.order).first, (impl.order).fewest, (impl.order).best$1. -/
import Derived.Test.YtbfjekmefcpkmaaDoorProg
import Derived.Test.YtbfjekmefcpkmaaDoorPrs
import Derived.Test.YtbfjekmefcpkmaaDoorMod
import Derived.Test.YtbfjekmefcpkmaaDoorEqs
import Derived.Test.YtbfjekmefcpkmaaDoorCtzC
import Derived.Test.YtbfjekmefcpkmaaDoorSrP0
set_option linter.unusedSimpArgs false
set_option linter.unusedVariables false
namespace Go.Proofs.YtbfjekmefcpkmaaDoor
open Go.RowKit
attribute [local irreducible] wS cW eX wH

theorem ent33 : Ent Tryd.prog 33 := fun _ => by kernel_rfl
theorem ent34 : Ent Tryd.prog 34 := fun _ => by kernel_rfl
theorem ent35 : Ent Tryd.prog 35 := fun _ => by kernel_rfl
theorem ent74 : Ent Tryd.prog 74 := fun _ => by kernel_rfl
theorem ent75 : Ent Tryd.prog 75 := fun _ => by kernel_rfl
theorem ent76 : Ent Tryd.prog 76 := fun _ => by kernel_rfl
theorem ent78 : Ent Tryd.prog 78 := fun _ => by kernel_rfl
theorem ent79 : Ent Tryd.prog 79 := fun _ => by kernel_rfl
theorem ent93 : Ent Tryd.prog 93 := fun _ => by kernel_rfl
theorem ent101 : Ent Tryd.prog 101 := fun _ => by kernel_rfl
theorem ent102 : Ent Tryd.prog 102 := fun _ => by kernel_rfl
theorem ent103 : Ent Tryd.prog 103 := fun _ => by kernel_rfl
theorem vt2 : VarTy Tryd.prog 2 1 false := ⟨by kernel_rfl, by kernel_rfl⟩
theorem vt3 : VarTy Tryd.prog 3 1 false := ⟨by kernel_rfl, by kernel_rfl⟩
theorem vt5 : VarTy Tryd.prog 5 1 false := ⟨by kernel_rfl, by kernel_rfl⟩
theorem vt22 : VarTy Tryd.prog 22 1 false := ⟨by kernel_rfl, by kernel_rfl⟩
theorem vt24 : VarTy Tryd.prog 24 1 false := ⟨by kernel_rfl, by kernel_rfl⟩
theorem vt26 : VarTy Tryd.prog 26 2 true := ⟨by kernel_rfl, by kernel_rfl⟩
theorem vt56 : VarTy Tryd.prog 56 1 false := ⟨by kernel_rfl, by kernel_rfl⟩
theorem vt58 : VarTy Tryd.prog 58 2 true := ⟨by kernel_rfl, by kernel_rfl⟩
theorem vt97 : VarTy Tryd.prog 97 1 false := ⟨by kernel_rfl, by kernel_rfl⟩
theorem vt105 : VarTy Tryd.prog 105 1 false := ⟨by kernel_rfl, by kernel_rfl⟩
theorem vt108 : VarTy Tryd.prog 108 1 false := ⟨by kernel_rfl, by kernel_rfl⟩
theorem vt127 : VarTy Tryd.prog 127 1 false := ⟨by kernel_rfl, by kernel_rfl⟩
theorem sl22 : SlTy Tryd.prog 22 5 1 := ⟨Tryd.underlying22, by kernel_rfl⟩
theorem sl24 : SlTy Tryd.prog 24 2 1 := ⟨Tryd.underlying24, by kernel_rfl⟩
theorem sl28 : SlTy Tryd.prog 28 24 1 := ⟨Tryd.underlying28, by kernel_rfl⟩
theorem sl56 : SlTy Tryd.prog 56 3 1 := ⟨Tryd.underlying56, by kernel_rfl⟩
theorem el24 : ElTy Tryd.prog 24 2 1 (ii 0) := ElTy.mk' Tryd.underlying24 (by kernel_rfl) (by rfl)
theorem el28 : ElTy Tryd.prog 28 24 1 (.slice none 0 0) := ElTy.mk' Tryd.underlying28 (by kernel_rfl) (by rfl)
theorem el56 : ElTy Tryd.prog 56 3 1 (ii 0) := ElTy.mk' Tryd.underlying56 (by kernel_rfl) (by rfl)
theorem mk102 : MK Tryd.prog 2 kI okI := mkI Tryd.underlying2
theorem mp102 : MpTy Tryd.prog 102 2 3 (kI 0) := ⟨Tryd.underlying102, by kernel_rfl⟩
theorem mk105 : MK Tryd.prog 3 kI okI := mkI Tryd.underlying3
theorem mp105 : MpTy Tryd.prog 105 3 3 (kI 0) := ⟨Tryd.underlying105, by kernel_rfl⟩
theorem ity3 : Tryd.prog.underlying 3 = some (.int .i64) := Tryd.underlying3
theorem sz2 : pureRun Tryd.prog (sizeOf 2) = some 1 := by kernel_rfl
theorem sz3 : pureRun Tryd.prog (sizeOf 3) = some 1 := by kernel_rfl
theorem sz24 : pureRun Tryd.prog (sizeOf 24) = some 1 := by kernel_rfl
theorem sz26 : pureRun Tryd.prog (sizeOf 26) = some 2 := by kernel_rfl
theorem sz56 : pureRun Tryd.prog (sizeOf 56) = some 1 := by kernel_rfl
theorem sz58 : pureRun Tryd.prog (sizeOf 58) = some 2 := by kernel_rfl
theorem sz97 : pureRun Tryd.prog (sizeOf 97) = some 1 := by kernel_rfl
theorem sz127 : pureRun Tryd.prog (sizeOf 127) = some 1 := by kernel_rfl

set_option maxRecDepth 100000 in
theorem c_laws_b10Long {w0 l0 A0 cap0 fp0 l1 A1 cap1 fp1} {r : Bool} (hm : m_laws_b10Long l0 l1 = some r) (F0 : Sl 1 encU w0 fp0 A0 l0) (F1 : Sl 1 encU w0 fp1 A1 l1) :
  Calls Tryd.prog 7 #[.slice A0 l0.length cap0, .slice A1 l1.length cap1] w0 fun e w' => e = .returned (.bool (r)) ∧ Chg [] w0 w' := by
 have L0 := F0.low
 have L1 := F1.low
 have hB : Chg [] w0 w0 := Chg.refl _ _
 unfold m_laws_b10Long at hm
 refine enterE (N := 13) Tryd.func7 (by rfl) Tryd.ntmps7 (by simp) [(0, .slice A0 l0.length cap0), (1, .slice A1 l1.length cap1)] (by rfl) (by kernel_rfl) (fun a => ?_)
 refine sR <| wP 1 [(4, .bool (false))] <| wN <| sR <| wP 4 [(8, .bool (decide (((l0.length : Int)) > 1048576))), (7, .bool (decide (((l0.length : Int)) > 1048576))), (6, ii (l0.length : Int)), (5, .slice A0 l0.length cap0)] <| wS_bool (decide (((l0.length : Int)) > 1048576)) (fun hb1 => ?_) (fun hb1 => ?_)
 ·have hm := condT hb1 hm
  rewrite [hb1]
  refine wP 5 [(4, .bool (true)), (12, .bool (true)), (11, undef), (10, undef), (9, undef)] <| wN <| cW_ret ?_
  obtain rfl := someE (x := true) hm
  refine rA (.bool (true)) 4 ?_
  exact ⟨rfl, hB⟩
 have hm := condF hb1 hm
 rewrite [hb1]
 refine wP 5 [(4, .bool (decide (((l1.length : Int)) > 1048576))), (12, .bool (decide (((l1.length : Int)) > 1048576))), (11, .bool (decide (((l1.length : Int)) > 1048576))), (10, ii (l1.length : Int)), (9, .slice A1 l1.length cap1)] <| wN <| cW_ret ?_
 obtain rfl := someE (x := (decide (((l1.length : Int)) > 1048576))) hm
 refine rA (.bool (decide (((l1.length : Int)) > 1048576))) 4 ?_
 exact ⟨rfl, hB⟩

set_option maxRecDepth 100000 in
theorem c_spec_l00From {w0 l0 A0 cap0 fp0} {r : (Int × Int)} (hm : m_spec_l00From l0 = some r) (F0 : Sl 1 encU w0 fp0 A0 l0) :
  Calls Tryd.prog 33 #[.slice A0 l0.length cap0] w0 fun e w' => ∃ b100, e = .returned (pt b100) ∧ Cl w' b100 99 [.slice A0 l0.length cap0, ii r.1, .int .u64 (r.2)] ∧ w0.heap.size ≤ b100 ∧ Chg [] w0 w' := by
 have L0 := F0.low
 have hB : Chg [] w0 w0 := Chg.refl _ _
 unfold m_spec_l00From at hm
 refine enterE (N := 6) Tryd.func33 (by rfl) Tryd.ntmps33 (by simp) [(0, .slice A0 l0.length cap0)] (by rfl) (by kernel_rfl) (fun a => ?_)
 refine sR <| wP 1 [(2, .pointer none)] <| wN <| sR <| wP 2 [(4, .agg #[.slice A0 l0.length cap0, ii 0, .int .u64 (0)]), (3, .slice A0 l0.length cap0)] <| wS_box (d := 5) (T := 99) (x := .agg #[.slice A0 l0.length cap0, ii 0, .int .u64 (0)]) (by kernel_rfl) ?_
 intro b1 w1 G1 F1 hc1
 replace F1 : Cl w1 b1 99 [.slice A0 l0.length cap0, ii 0, .int .u64 (0)] := F1
 replace F0 := F0.c hc1
 replace G1 := Nat.le_trans hB.size G1
 replace hB := hB.q hc1
 refine wP 1 [(2, pt b1)] <| wN <| cW_ret ?_
 obtain rfl := someE (x := ((0, 0))) hm
 refine rA (pt b1) 2 ?_
 exact ⟨b1, rfl, F1, G1, hB⟩

set_option maxRecDepth 100000 in
theorem c_sL00SrNext {w0 l0_0 A0_0 cap0_0 fp0_0 q0_1 q0_2 b0} {r : (Int) × (Int) × (Int)} (hm : m_sL00SrNext l0_0 q0_1 q0_2 = some r) (F0_0 : Sl 1 encU w0 fp0_0 A0_0 l0_0) (F0 : Cl w0 b0 99 [.slice A0_0 l0_0.length cap0_0, ii q0_1, .int .u64 (q0_2)]) (J0__0_0 : Dj [b0] fp0_0) :
  Calls Tryd.prog 74 #[pt b0] w0 fun e w' => e = .returned (ii r.1) ∧ Cl w' b0 99 [.slice A0_0 l0_0.length cap0_0, ii r.2.1, .int .u64 (r.2.2)] ∧ Chg ([b0] ++ []) w0 w' := by
 have L0_0 := F0_0.low
 have L0 := lt1 F0.lt
 have hB : Chg ([b0] ++ []) w0 w0 := Chg.refl _ _
 unfold m_sL00SrNext at hm
 refine enterE (N := 62) Tryd.func74 (by rfl) Tryd.ntmps74 (by simp) [(0, pt b0)] (by rfl) (by kernel_rfl) (fun a => ?_)
 refine sR <| wP 1 [(2, ii 0)] <| wN <| sR <| wP 1 [(3, ii 0)] <| wN <| cW_seq ?_
 obtain ⟨s1, hs1, hm⟩ := bindE hm
 refine cW_cut (fun a' w' => ∃ x1 : Int, x1 = s1 ∧ Fr 62 [(0, pt b0), (3, ii x1)] a' ∧ Sl 1 encU w' fp0_0 A0_0 l0_0 ∧ Cl w' b0 99 [.slice A0_0 l0_0.length cap0_0, ii q0_1, .int .u64 (q0_2)] ∧ Chg ([b0] ++ []) w0 w') ?_ ?_
 ·have hm := hs1
  refine cW_seq <| cW_drawnTail [] 9 (by kernel_rfl) (by kernel_rfl) (fun w1 hc1 => ?_)
  replace F0_0 := F0_0.c hc1
  replace F0 := F0.c hc1
  replace hB := hB.q hc1
  have hS := Chg.refl [] w1
  have Z1 := F0_0
  have Z2 := F0
  refine hT [0, 1, 2] [(6, .pointer (some ⟨b0, 1, none⟩)), (5, pt b0), (4, pt b0)] <| hL 3 7 ⟨b0, 1, none⟩ (ii q0_1) vt3 (fun W hW => (Z2.c hW).cell 1) ?_
  refine hT [4, 5, 6] [(10, pt b0), (9, pt b0), (8, pt b0)] <| hL 7 11 ⟨b0, 0, none⟩ (.slice A0_0 l0_0.length cap0_0) vt22 (fun W hW => (Z2.c hW).cell 0) ?_
  refine hT [8] [(12, ii (l0_0.length : Int))] <| wD <| eX_tail <| wP 1 [(13, .bool (decide (q0_1 < ((l0_0.length : Int)))))] <| wN <| cC (decide (q0_1 < ((l0_0.length : Int)))) (fun hb1 => ?_) (fun hb1 => ?_)
  ·have hm := condT hb1 hm
   refine cW_drawnTail [] 8 (by kernel_rfl) (by kernel_rfl) (fun w2 hc2 => ?_)
   replace F0_0 := F0_0.c hc2
   replace F0 := F0.c hc2
   replace hB := hB.q hc2
   have hS := Chg.refl [] w2
   have Z3 := F0_0
   have Z4 := F0
   refine hT [0, 1, 2] [(16, pt b0), (15, pt b0), (14, pt b0)] <| hL 3 17 ⟨b0, 0, none⟩ (.slice A0_0 l0_0.length cap0_0) vt22 (fun W hW => (Z4.c hW).cell 0) ?_
   refine hT [4, 5, 6] [(20, .pointer (some ⟨b0, 1, none⟩)), (19, pt b0), (18, pt b0)] <| hL 7 21 ⟨b0, 1, none⟩ (ii q0_1) vt3 (fun W hW => (Z4.c hW).cell 1) ?_
   refine wD <| eX_tail ?_
   obtain ⟨x2, hx1, hm⟩ := bindE hm
   refine sI 22 A0_0 l0_0.length cap0_0 .i64 q0_1 sl22 (F0_0.is hx1) <| sL 23 (elA A0_0 1 (q0_1) 0) (.int .u8 (x2)) vt5 (Sl.cell F0_0 hx1 0 (by rfl)) <| wP 2 [(3, ii (wr x2)), (24, ii (wr x2))] <| wE ?_
   obtain rfl := someE (x := wr x2) hm
   exact eX_J (fun hst => ⟨wr x2, rfl, fO hst, F0_0, F0, hB⟩)
  have hm := condF hb1 hm
  refine cW_skip ?_
  obtain rfl := someE (x := 0) hm
  exact eX_J (fun hst => ⟨0, rfl, fO hst, F0_0, F0, hB⟩)
 rintro a' w3 ⟨x1, hJ, hF1, F1, F2, hB⟩
 subst hJ
 refine gX hF1 <| eX_then <| sR <| wP 3 [(27, .pointer (some ⟨b0, 1, none⟩)), (26, pt b0), (25, pt b0)] <| sL 28 ⟨b0, 1, none⟩ (ii q0_1) vt3 ((F2).cell 1) <| wP 3 [(31, .pointer (some ⟨b0, 1, none⟩)), (30, pt b0), (29, ii (wr (q0_1 + 1)))] <| wS_store (T := 3) (g := b0) (o := 1) (ad := ⟨b0, 1, none⟩) (v := ii (wr (q0_1 + 1))) (vs := [ii (wr (q0_1 + 1))]) (by kernel_rfl) (by rfl) sz3 (by rfl) (by rfl) F2 (bl rfl) ?_
 intro w4 F3 hc3
 replace F1 := F1.chg hc3 (J0__0_0).symm
 replace hB := hB.inS hc3 (inMem (fun x hx => (List.mem_append_left _ hx)))
 replace F3 : Cl w4 b0 99 [.slice A0_0 l0_0.length cap0_0, ii (wr (q0_1 + 1)), .int .u64 (q0_2)] := F3
 clear F2
 refine wN <| sR <| wP 4 [(35, .pointer (some ⟨b0, 2, none⟩)), (34, pt b0), (33, pt b0), (32, pt b0)] <| sL 36 ⟨b0, 2, none⟩ (.int .u64 (q0_2)) vt97 ((F3).cell 2) <| wP 7 [(43, .pointer (some ⟨b0, 2, none⟩)), (42, pt b0), (41, .int .u64 (wu ((wu ((wu (q0_2 * 6364136223846793005)) + (wu x1))) + 1442695040888963407))), (40, .int .u64 (wu ((wu (q0_2 * 6364136223846793005)) + (wu x1)))), (39, .int .u64 (wu x1)), (38, ii x1), (37, .int .u64 (wu (q0_2 * 6364136223846793005)))] <| wS_store (T := 97) (g := b0) (o := 2) (ad := ⟨b0, 2, none⟩) (v := .int .u64 (wu ((wu ((wu (q0_2 * 6364136223846793005)) + (wu x1))) + 1442695040888963407))) (vs := [.int .u64 (wu ((wu ((wu (q0_2 * 6364136223846793005)) + (wu x1))) + 1442695040888963407))]) (by kernel_rfl) (by rfl) sz97 (by rfl) (by rfl) F3 (bl rfl) ?_
 intro w5 F4 hc4
 replace F1 := F1.chg hc4 (J0__0_0).symm
 replace hB := hB.inS hc4 (inMem (fun x hx => (List.mem_append_left _ hx)))
 replace F4 : Cl w5 b0 99 [.slice A0_0 l0_0.length cap0_0, ii (wr (q0_1 + 1)), .int .u64 (wu ((wu ((wu (q0_2 * 6364136223846793005)) + (wu x1))) + 1442695040888963407))] := F4
 clear F3
 refine wN <| cW_seq <| cW_seq <| cW_drawnTail [] 9 (by kernel_rfl) (by kernel_rfl) (fun w6 hc5 => ?_)
 replace F1 := F1.c hc5
 replace F4 := F4.c hc5
 replace hB := hB.q hc5
 have hS := Chg.refl [] w6
 have Z5 := F1
 have Z6 := F4
 refine hT [0, 1, 2] [(46, .pointer (some ⟨b0, 1, none⟩)), (45, pt b0), (44, pt b0)] <| hL 3 47 ⟨b0, 1, none⟩ (ii (wr (q0_1 + 1))) vt3 (fun W hW => (Z6.c hW).cell 1) ?_
 refine hT [4, 5, 6] [(50, pt b0), (49, pt b0), (48, pt b0)] <| hL 7 51 ⟨b0, 0, none⟩ (.slice A0_0 l0_0.length cap0_0) vt22 (fun W hW => (Z6.c hW).cell 0) ?_
 refine hT [8] [(52, ii (l0_0.length : Int))] <| wD <| eX_tail <| wP 1 [(53, .bool (decide ((wr (q0_1 + 1)) ≤ ((l0_0.length : Int)))))] <| wN <| cP [(0, pt b0), (3, ii x1), (53, .bool (decide ((wr (q0_1 + 1)) ≤ ((l0_0.length : Int)))))] (fun a1 => ?_)
 refine cC (decide ((wr (q0_1 + 1)) ≤ ((l0_0.length : Int)))) (fun hb2 => ?_) (fun hb2 => ?_)
 ·have hm := condT hb2 hm
  refine sR <| wP 2 [(2, ii x1), (54, ii x1)] <| wN <| cW_ret <| eX_then_ret ?_
  obtain rfl := someE (x := ((x1, wr (q0_1 + 1), wu ((wu ((wu (q0_2 * 6364136223846793005)) + (wu x1))) + 1442695040888963407)))) hm
  refine rA (ii x1) 2 ?_
  exact ⟨rfl, F4, hB⟩
 have hm := condF hb2 hm
 refine cW_skip <| eX_then <| sR <| wP 3 [(57, .pointer (some ⟨b0, 2, none⟩)), (56, pt b0), (55, pt b0)] <| sL 58 ⟨b0, 2, none⟩ (.int .u64 (wu ((wu ((wu (q0_2 * 6364136223846793005)) + (wu x1))) + 1442695040888963407))) vt97 ((F4).cell 2) <| wP 4 [(2, ii (wr (andU (shrU (wu ((wu ((wu (q0_2 * 6364136223846793005)) + (wu x1))) + 1442695040888963407)) 40) 255))), (61, ii (wr (andU (shrU (wu ((wu ((wu (q0_2 * 6364136223846793005)) + (wu x1))) + 1442695040888963407)) 40) 255))), (60, .int .u64 (andU (shrU (wu ((wu ((wu (q0_2 * 6364136223846793005)) + (wu x1))) + 1442695040888963407)) 40) 255)), (59, .int .u64 (shrU (wu ((wu ((wu (q0_2 * 6364136223846793005)) + (wu x1))) + 1442695040888963407)) 40))] ?_
 refine wN <| cW_ret ?_
 obtain rfl := someE (x := ((wr (andU (shrU (wu ((wu ((wu (q0_2 * 6364136223846793005)) + (wu x1))) + 1442695040888963407)) 40) 255), wr (q0_1 + 1), wu ((wu ((wu (q0_2 * 6364136223846793005)) + (wu x1))) + 1442695040888963407)))) hm
 refine rA (ii (wr (andU (shrU (wu ((wu ((wu (q0_2 * 6364136223846793005)) + (wu x1))) + 1442695040888963407)) 40) 255))) 2 ?_
 exact ⟨rfl, F4, hB⟩

set_option maxRecDepth 100000 in
theorem c_sL00SrPick {w0 l0_0 A0_0 cap0_0 fp0_0 q0_1 q0_2 b0 p1} {r : (Int) × (Int) × (Int)} (hm : m_sL00SrPick l0_0 q0_1 q0_2 p1 = some r) (F0_0 : Sl 1 encU w0 fp0_0 A0_0 l0_0) (F0 : Cl w0 b0 99 [.slice A0_0 l0_0.length cap0_0, ii q0_1, .int .u64 (q0_2)]) (J0__0_0 : Dj [b0] fp0_0) :
  Calls Tryd.prog 34 #[pt b0, ii p1] w0 fun e w' => e = .returned (ii r.1) ∧ Cl w' b0 99 [.slice A0_0 l0_0.length cap0_0, ii r.2.1, .int .u64 (r.2.2)] ∧ Chg ([b0] ++ []) w0 w' := by
 have L0_0 := F0_0.low
 have L0 := lt1 F0.lt
 have hB : Chg ([b0] ++ []) w0 w0 := Chg.refl _ _
 unfold m_sL00SrPick at hm
 refine enterE (N := 20) Tryd.func34 (by rfl) Tryd.ntmps34 (by simp) [(0, pt b0), (1, ii p1)] (by rfl) (by kernel_rfl) (fun a => ?_)
 refine sR <| wP 1 [(4, ii 0)] <| wN <| cW_seq <| sR <| wP 2 [(7, .bool (decide (p1 ≤ 1))), (6, ii p1)] <| wN <| cC (decide (p1 ≤ 1)) (fun hb1 => ?_) (fun hb1 => ?_)
 ·have hm := condT hb1 hm
  refine sR <| wP 1 [(4, ii 0)] <| wN <| cW_ret <| eX_then_ret ?_
  obtain rfl := someE (x := ((0, q0_1, q0_2))) hm
  refine rA (ii 0) 4 ?_
  exact ⟨rfl, F0, hB⟩
 have hm := condF hb1 hm
 refine cW_skip <| eX_then <| sR <| wP 1 [(8, pt b0)] ?_
 obtain ⟨y1, hy1, hm⟩ := bindE hm
 refine sC 9 [pt b0] ent74 (c_sL00SrNext hy1 F0_0 F0 J0__0_0) ?_
 rintro _ w1 ⟨rfl, F1, hc1⟩
 replace F0_0 := F0_0.chg hc1 (Dj.app (J0__0_0).symm Dj.nil)
 replace hB := hB.inS hc1 (inApp (inMem (fun x hx => (List.mem_append_left _ hx))) inNil)
 clear F0
 refine ⟨ii y1.1, rfl, ?_⟩
 refine wP 1 [(5, ii y1.1)] <| wN <| cW_seq ?_
 obtain ⟨s1, hs1, hm⟩ := bindE hm
 refine cW_cut (fun a' w' => ∃ x1 : Int, ∃ x2 : Int, ∃ x3 : Int, (x1, x2, x3) = s1 ∧ Fr 20 [(1, ii p1), (5, ii x1)] a' ∧ Sl 1 encU w' fp0_0 A0_0 l0_0 ∧ Cl w' b0 99 [.slice A0_0 l0_0.length cap0_0, ii x2, .int .u64 (x3)] ∧ Chg ([b0] ++ []) w0 w') ?_ ?_
 ·have hm := hs1
  refine sR <| wP 2 [(11, .bool (decide (p1 > 200))), (10, ii p1)] <| wN <| cC (decide (p1 > 200)) (fun hb2 => ?_) (fun hb2 => ?_)
  ·have hm := condT hb2 hm
   refine cW_region <| wP 3 [(14, pt b0), (13, ii (wr (y1.1 * 256))), (12, ii y1.1)] ?_
   obtain ⟨y2, hy2, hm⟩ := bindE hm
   refine sC 15 [pt b0] ent74 (c_sL00SrNext hy2 F0_0 F1 J0__0_0) ?_
   rintro _ w2 ⟨rfl, F2, hc2⟩
   replace F0_0 := F0_0.chg hc2 (Dj.app (J0__0_0).symm Dj.nil)
   replace hB := hB.inS hc2 (inApp (inMem (fun x hx => (List.mem_append_left _ hx))) inNil)
   clear F1
   refine ⟨ii y2.1, rfl, ?_⟩
   refine wP 2 [(5, ii (wr ((wr (y1.1 * 256)) + y2.1))), (16, ii (wr ((wr (y1.1 * 256)) + y2.1)))] <| wE ?_
   obtain rfl := someE (x := ((wr ((wr (y1.1 * 256)) + y2.1), y2.2.1, y2.2.2))) hm
   exact eX_J (fun hst => ⟨wr ((wr (y1.1 * 256)) + y2.1), y2.2.1, y2.2.2, rfl, fO hst, F0_0, F2, hB⟩)
  have hm := condF hb2 hm
  refine cW_skip ?_
  obtain rfl := someE (x := ((y1.1, y1.2.1, y1.2.2))) hm
  exact eX_J (fun hst => ⟨y1.1, y1.2.1, y1.2.2, rfl, fO hst, F0_0, F1, hB⟩)
 rintro a' w3 ⟨x1, x2, x3, hJ, hF1, F3, F4, hB⟩
 subst hJ
 refine gX hF1 <| eX_then <| sR <| wP 2 [(18, ii p1), (17, ii x1)] ?_
 obtain ⟨u1, hu1, hm⟩ := bindE hm
 refine wS_rem (d := 19) (x := x1) (y := p1) (by kernel_rfl) (nzE hu1) <| wP 1 [(4, ii (Int.tmod x1 p1))] <| wN <| cW_ret ?_
 obtain rfl := someE (x := ((Int.tmod x1 p1, x2, x3))) hm
 refine rA (ii (Int.tmod x1 p1)) 4 ?_
 exact ⟨rfl, F4, hB⟩

set_option maxRecDepth 100000 in
theorem c_sL03Dr {w0 l0_0 A0_0 cap0_0 fp0_0 q0_1 q0_2 b0 p1 p2} {r : ((List Int) × (List Int)) × (Int) × (Int)} (hm : m_sL03Dr l0_0 q0_1 q0_2 p1 p2 = some r) (F0_0 : Sl 1 encU w0 fp0_0 A0_0 l0_0) (F0 : Cl w0 b0 99 [.slice A0_0 l0_0.length cap0_0, ii q0_1, .int .u64 (q0_2)]) (J0__0_0 : Dj [b0] fp0_0) :
  Calls Tryd.prog 35 #[pt b0, ii p1, ii p2] w0 fun e w' => ∃ A100_0 cap100_0 fp100_0, ∃ A100_1 cap100_1 fp100_1, e = .returned (.agg #[.slice A100_0 r.1.1.length cap100_0, .slice A100_1 r.1.2.length cap100_1]) ∧ O1 2 w' fp100_0 A100_0 cap100_0 r.1.1 ∧ (∀ x ∈ fp100_0, w0.heap.size ≤ x) ∧ O1 2 w' fp100_1 A100_1 cap100_1 r.1.2 ∧ (∀ x ∈ fp100_1, w0.heap.size ≤ x) ∧ Dj fp100_0 fp100_1 ∧ Cl w' b0 99 [.slice A0_0 l0_0.length cap0_0, ii r.2.1, .int .u64 (r.2.2)] ∧ Chg ([b0] ++ []) w0 w' := by
 have L0_0 := F0_0.low
 have L0 := lt1 F0.lt
 have hB : Chg ([b0] ++ []) w0 w0 := Chg.refl _ _
 unfold m_sL03Dr at hm
 refine enterE (N := 84) Tryd.func35 (by rfl) Tryd.ntmps35 (by simp) [(0, pt b0), (1, ii p1), (2, ii p2)] (by rfl) (by kernel_rfl) (fun a => ?_)
 refine sR <| wS_alloc (d := 6) (T := 26) (z := .agg #[.slice none 0 0, .slice none 0 0]) (by kernel_rfl) (by kernel_rfl) ?_
 intro b1 w1 G1 F1 hc1
 replace F1 : Cl w1 b1 26 [.slice none 0 0, .slice none 0 0] := F1
 replace F0_0 := F0_0.c hc1
 replace F0 := F0.c hc1
 replace G1 := Nat.le_trans hB.size G1
 replace hB := hB.q hc1
 refine wN <| sR <| wP 1 [(13, .agg #[.slice none 0 0, .slice none 0 0])] <| wS_alloc (d := 7) (T := 26) (z := .agg #[.slice none 0 0, .slice none 0 0]) (by kernel_rfl) (by kernel_rfl) ?_
 intro b2 w2 G2 F2 hc2
 replace F2 : Cl w2 b2 26 [.slice none 0 0, .slice none 0 0] := F2
 have D1 := Dj.of (lt1 F1.lt) (low1 G2)
 replace F0_0 := F0_0.c hc2
 replace F0 := F0.c hc2
 replace F1 := F1.c hc2
 replace G2 := Nat.le_trans hB.size G2
 replace hB := hB.q hc2
 refine wS_store (T := 26) (g := b2) (o := 0) (ad := ⟨b2, 0, none⟩) (v := .agg #[.slice none 0 0, .slice none 0 0]) (vs := [.slice none 0 0, .slice none 0 0]) (by kernel_rfl) (by rfl) sz26 (by rfl) (by rfl) F2 (bl rfl) ?_
 intro w3 F3 hc3
 replace F0_0 := F0_0.chg hc3 (Dj.of L0_0 (low1 G2))
 replace F0 := F0.chg hc3 (dj1 (Dj.of L0 (low1 G2)))
 replace F1 := F1.chg hc3 (dj1 D1)
 replace hB := hB.inS hc3 (inLow (low1 G2))
 replace F3 : Cl w3 b2 26 [.slice none 0 0, .slice none 0 0] := F3
 clear F2
 refine wN <| sR ?_
 obtain ⟨_, hk1, hm⟩ := bindE hm
 replace hk1 := mkE hk1
 refine wS_make (enc := encI) (x0 := (0 : Int)) (d := 14) (t := 24) (T := 2) (k1 := .i64) (k2 := .i64) (m := 13) (by kernel_rfl) el24 encI_ok (by rfl) hk1.1 hk1.2 ?_
 intro b3 w4 G3 F4 hc4
 have D2 := Dj.of (lt1 F1.lt) (low1 G3)
 have D3 := Dj.of (lt1 F3.lt) (low1 G3)
 replace F0_0 := F0_0.c hc4
 replace F0 := F0.c hc4
 replace F1 := F1.c hc4
 replace F3 := F3.c hc4
 replace G3 := Nat.le_trans hB.size G3
 replace G3 := low1 G3
 replace hB := hB.q hc4
 refine wP 1 [(8, .slice (ad b3) (List.replicate (Int.toNat 13) ((0 : Int))).length (Int.toNat 13))] <| wN <| cW_seq <| sR <| wP 1 [(9, ii 0)] <| wN ?_
 obtain ⟨r1, hr1, hm⟩ := bindE hm
 have hm1 := hm
 refine cW_cut (fun a' w' => ∃ l1 : List Int, ∃ A1 : Option Addr, ∃ cap1 : Nat, ∃ fp1 : List Nat, ∃ l3 : List Int, ∃ A3 : Option Addr, ∃ cap3 : Nat, ∃ fp2 : List Nat, ∃ x1 : Int, ∃ x2 : Int, ∃ l4 : List Int, (l1, l3, x1, x2, l4) = r1 ∧ Fr 84 [(1, ii p1), (6, pt b1), (7, pt b2), (8, .slice (ad b3) l4.length (Int.toNat 13))] a' ∧ Sl 1 encU w' fp0_0 A0_0 l0_0 ∧ Cl w' b0 99 [.slice A0_0 l0_0.length cap0_0, ii x1, .int .u64 (x2)] ∧ Cl w' b1 26 [.slice none 0 0, .slice none 0 0] ∧ Cl w' b2 26 [.slice A1 l1.length cap1, .slice A3 l3.length cap3] ∧ O1 2 w' [b3] (ad b3) (Int.toNat 13) l4 ∧ O1 2 w' fp1 A1 cap1 l1 ∧ O1 2 w' fp2 A3 cap3 l3 ∧ (∀ x ∈ fp1, w0.heap.size ≤ x) ∧ (∀ x ∈ fp2, w0.heap.size ≤ x) ∧ Dj [b1] fp1 ∧ Dj [b2] fp1 ∧ Dj [b3] fp1 ∧ Dj fp2 fp1 ∧ Dj [b1] fp2 ∧ Dj [b2] fp2 ∧ Dj [b3] fp2 ∧ Chg ([b0] ++ []) w0 w') ?_ ?_
 ·refine cW_block ?_
  refine cW_loop _ (fun (s1 : Int × (List Int) × (List Int) × Int × Int × (List Int)) a' w' => ∃ x3 : Int, ∃ l5 : List Int, ∃ A4 : Option Addr, ∃ cap4 : Nat, ∃ fp3 : List Nat, ∃ l6 : List Int, ∃ A5 : Option Addr, ∃ cap5 : Nat, ∃ fp4 : List Nat, ∃ x4 : Int, ∃ x5 : Int, ∃ l7 : List Int, (x3, l5, l6, x4, x5, l7) = s1 ∧ Fr 84 [(0, pt b0), (1, ii p1), (2, ii p2), (6, pt b1), (7, pt b2), (8, .slice (ad b3) l7.length (Int.toNat 13)), (9, ii x3)] a' ∧ Sl 1 encU w' fp0_0 A0_0 l0_0 ∧ Cl w' b0 99 [.slice A0_0 l0_0.length cap0_0, ii x4, .int .u64 (x5)] ∧ Cl w' b1 26 [.slice none 0 0, .slice none 0 0] ∧ Cl w' b2 26 [.slice A4 l5.length cap4, .slice A5 l6.length cap5] ∧ O1 2 w' [b3] (ad b3) (Int.toNat 13) l7 ∧ O1 2 w' fp3 A4 cap4 l5 ∧ O1 2 w' fp4 A5 cap5 l6 ∧ (∀ x ∈ fp3, w0.heap.size ≤ x) ∧ (∀ x ∈ fp4, w0.heap.size ≤ x) ∧ Dj [b1] fp3 ∧ Dj [b2] fp3 ∧ Dj [b3] fp3 ∧ Dj fp4 fp3 ∧ Dj [b1] fp4 ∧ Dj [b2] fp4 ∧ Dj [b3] fp4 ∧ Chg ([b0] ++ []) w0 w') hr1 (fun hst => ⟨0, [], none, 0, [], [], none, 0, [], q0_1, q0_2, List.replicate (Int.toNat 13) ((0 : Int)), rfl, fO hst, F0_0, F0, F1, F3, F4, Ow.nil _, Ow.nil _, lowNil, lowNil, Dj.nil, Dj.nil, Dj.nil, Dj.nil, Dj.nil, Dj.nil, Dj.nil, hB⟩) ?_
  rintro _ c1 a' w5 ⟨x3, l5, A4, cap4, fp3, l6, A5, cap5, fp4, x4, x5, l7, rfl, hF1, F5, F6, F7, F8, F9, F10, F11, G4, G5, D4, D5, D6, D7, D8, D9, D10, hB⟩ hx1
  refine gO hF1 ?_
  have hm := hx1
  unfold m_sL03Dr_s1 at hm
  refine cW_seq <| sR <| wP 3 [(17, .bool (decide (x3 < p1))), (16, ii p1), (15, ii x3)] <| wN <| cC (decide (x3 < p1)) (fun hb1 => ?_) (fun hb1 => ?_)
  ·have hm := condT hb1 hm
   refine cW_skip <| eX_then <| cW_seq <| cW_block <| sR <| wP 3 [(22, ii (wr (p2 + 1))), (21, ii p2), (20, pt b0)] ?_
   obtain ⟨y1, hy1, hm⟩ := bindE hm
   refine sC 23 [pt b0, ii (wr (p2 + 1))] ent34 (c_sL00SrPick hy1 F5 F6 J0__0_0) ?_
   rintro _ w6 ⟨rfl, F12, hc5⟩
   replace F5 := F5.chg hc5 (Dj.app (J0__0_0).symm Dj.nil)
   replace F7 := F7.chg hc5 (dj1 (Dj.app (Dj.of L0 (low1 G1)).symm Dj.nil))
   replace F8 := F8.chg hc5 (dj1 (Dj.app (Dj.of L0 (low1 G2)).symm Dj.nil))
   replace F9 := F9.chg hc5 (Dj.app (Dj.of L0 G3).symm Dj.nil)
   replace F10 := F10.chg hc5 (Dj.app (Dj.of L0 G4).symm Dj.nil)
   replace F11 := F11.chg hc5 (Dj.app (Dj.of L0 G5).symm Dj.nil)
   replace hB := hB.inS hc5 (inApp (inMem (fun x hx => (List.mem_append_left _ hx))) inNil)
   clear F6
   refine ⟨ii y1.1, rfl, ?_⟩
   refine wP 1 [(10, ii y1.1)] <| wN <| sR <| wP 3 [(26, ii (wr (p2 + 1))), (25, ii p2), (24, pt b0)] ?_
   obtain ⟨y2, hy2, hm⟩ := bindE hm
   refine sC 27 [pt b0, ii (wr (p2 + 1))] ent34 (c_sL00SrPick hy2 F5 F12 J0__0_0) ?_
   rintro _ w7 ⟨rfl, F13, hc6⟩
   replace F5 := F5.chg hc6 (Dj.app (J0__0_0).symm Dj.nil)
   replace F7 := F7.chg hc6 (dj1 (Dj.app (Dj.of L0 (low1 G1)).symm Dj.nil))
   replace F8 := F8.chg hc6 (dj1 (Dj.app (Dj.of L0 (low1 G2)).symm Dj.nil))
   replace F9 := F9.chg hc6 (Dj.app (Dj.of L0 G3).symm Dj.nil)
   replace F10 := F10.chg hc6 (Dj.app (Dj.of L0 G4).symm Dj.nil)
   replace F11 := F11.chg hc6 (Dj.app (Dj.of L0 G5).symm Dj.nil)
   replace hB := hB.inS hc6 (inApp (inMem (fun x hx => (List.mem_append_left _ hx))) inNil)
   clear F12
   refine ⟨ii y2.1, rfl, ?_⟩
   refine wP 1 [(11, ii y2.1)] <| wN <| sR <| wP 1 [(28, pt b2)] <| sL 29 ⟨b2, 0, none⟩ (.slice A4 l5.length cap4) vt24 ((F8).cell 0) <| wP 1 [(30, ii y1.1)] <| wS_bs (enc := encI) ([y1.1] : List Int) [ii y1.1] (d := 31) (t := 24) (T := 2) (n := 1) (ps := [(0, ii y1.1)]) (by kernel_rfl) el24 encI_ok (by rfl) (by omega) (by omega) (by kernel_rfl) (by rfl) ?_
   intro b4 w8 G6 F14 hc7
   have D11 := Dj.of (lt1 F7.lt) (low1 G6)
   have D12 := Dj.of (lt1 F8.lt) (low1 G6)
   have D13 := Dj.of F9.low (low1 G6)
   have D14 := Dj.of F10.low (low1 G6)
   have D15 := Dj.of F11.low (low1 G6)
   replace F5 := F5.c hc7
   replace F13 := F13.c hc7
   replace F7 := F7.c hc7
   replace F8 := F8.c hc7
   replace F9 := F9.c hc7
   replace F10 := F10.c hc7
   replace F11 := F11.c hc7
   replace G6 := Nat.le_trans hB.size G6
   replace G6 := low1 G6
   replace hB := hB.q hc7
   obtain ⟨_, hk2, hm⟩ := bindE hm
   replace hk2 := apE hk2
   refine wS_append (enc := encI) (l := (l5 : List Int)) (l2 := (([y1.1] : List Int) : List Int)) (d := 32) (t := 24) (T := 2) (A := A4) (A2 := (ad b4)) (cap := cap4) (cap2 := 1) (by kernel_rfl) el24 encI_ok F10 (F14.sl encI_ok) (by rfl) hk2 ?_
   intro w9 fp5 A6 cap6 F15 hc8 hp1
   have G7 := low_ap G4 hB.size hp1
   have D16 : Dj [b1] fp5 := Dj.ap D4 (lt1 F7.lt) hp1
   have D17 : Dj [b2] fp5 := Dj.ap D5 (lt1 F8.lt) hp1
   have D18 : Dj [b3] fp5 := Dj.ap D6 F9.low hp1
   have D19 : Dj fp4 fp5 := Dj.ap D7 F11.low hp1
   have D20 : Dj [b4] fp5 := Dj.ap (D14).symm F14.low hp1
   replace F5 := F5.chg hc8 (Dj.of L0_0 G4)
   replace F13 := F13.chg hc8 (dj1 (Dj.of L0 G4))
   replace F7 := F7.chg hc8 (dj1 D4)
   replace F8 := F8.chg hc8 (dj1 D5)
   replace F9 := F9.chg hc8 D6
   replace F11 := F11.chg hc8 D7
   replace F14 := F14.chg hc8 (D14).symm
   replace hB := hB.inS hc8 (inLow G4)
   refine wP 1 [(33, pt b2)] <| wS_store (T := 24) (g := b2) (o := 0) (ad := ⟨b2, 0, none⟩) (v := .slice A6 (l5 ++ (([y1.1] : List Int))).length cap6) (vs := [.slice A6 (l5 ++ (([y1.1] : List Int))).length cap6]) (by kernel_rfl) (by rfl) sz24 (by rfl) (by rfl) F8 (bl rfl) ?_
   intro w10 F16 hc9
   replace F5 := F5.chg hc9 (Dj.of L0_0 (low1 G2))
   replace F13 := F13.chg hc9 (dj1 (Dj.of L0 (low1 G2)))
   replace F7 := F7.chg hc9 (dj1 D1)
   replace F9 := F9.chg hc9 (D3).symm
   replace F11 := F11.chg hc9 (D9).symm
   replace F14 := F14.chg hc9 (D12).symm
   replace F15 := F15.chg hc9 (D17).symm
   replace hB := hB.inS hc9 (inLow (low1 G2))
   replace F16 : Cl w10 b2 26 [.slice A6 (l5 ++ (([y1.1] : List Int))).length cap6, .slice A5 l6.length cap5] := F16
   clear F8
   refine wN <| cP [(0, pt b0), (1, ii p1), (2, ii p2), (6, pt b1), (7, pt b2), (8, .slice (ad b3) l7.length (Int.toNat 13)), (9, ii x3), (10, ii y1.1), (11, ii y2.1)] (fun a1 => ?_)
   refine sR <| wP 1 [(34, .pointer (some ⟨b2, 1, none⟩))] <| sL 35 ⟨b2, 1, none⟩ (.slice A5 l6.length cap5) vt24 ((F16).cell 1) <| wP 1 [(36, ii y2.1)] <| wS_bs (enc := encI) ([y2.1] : List Int) [ii y2.1] (d := 37) (t := 24) (T := 2) (n := 1) (ps := [(0, ii y2.1)]) (by kernel_rfl) el24 encI_ok (by rfl) (by omega) (by omega) (by kernel_rfl) (by rfl) ?_
   intro b5 w11 G8 F17 hc10
   have D21 := Dj.of (lt1 F7.lt) (low1 G8)
   have D22 := Dj.of (lt1 F16.lt) (low1 G8)
   have D23 := Dj.of F9.low (low1 G8)
   have D24 := Dj.of F11.low (low1 G8)
   have D25 := Dj.of F14.low (low1 G8)
   have D26 := Dj.of F15.low (low1 G8)
   replace F5 := F5.c hc10
   replace F13 := F13.c hc10
   replace F7 := F7.c hc10
   replace F16 := F16.c hc10
   replace F9 := F9.c hc10
   replace F11 := F11.c hc10
   replace F14 := F14.c hc10
   replace F15 := F15.c hc10
   replace G8 := Nat.le_trans hB.size G8
   replace G8 := low1 G8
   replace hB := hB.q hc10
   obtain ⟨_, hk3, hm⟩ := bindE hm
   replace hk3 := apE hk3
   refine wS_append (enc := encI) (l := (l6 : List Int)) (l2 := (([y2.1] : List Int) : List Int)) (d := 38) (t := 24) (T := 2) (A := A5) (A2 := (ad b5)) (cap := cap5) (cap2 := 1) (by kernel_rfl) el24 encI_ok F11 (F17.sl encI_ok) (by rfl) hk3 ?_
   intro w12 fp6 A7 cap7 F18 hc11 hp2
   have G9 := low_ap G5 hB.size hp2
   have D27 : Dj [b1] fp6 := Dj.ap D8 (lt1 F7.lt) hp2
   have D28 : Dj [b2] fp6 := Dj.ap D9 (lt1 F16.lt) hp2
   have D29 : Dj [b3] fp6 := Dj.ap D10 F9.low hp2
   have D30 : Dj [b4] fp6 := Dj.ap (D15).symm F14.low hp2
   have D31 : Dj fp5 fp6 := Dj.ap (D19).symm F15.low hp2
   have D32 : Dj [b5] fp6 := Dj.ap (D24).symm F17.low hp2
   replace F5 := F5.chg hc11 (Dj.of L0_0 G5)
   replace F13 := F13.chg hc11 (dj1 (Dj.of L0 G5))
   replace F7 := F7.chg hc11 (dj1 D8)
   replace F16 := F16.chg hc11 (dj1 D9)
   replace F9 := F9.chg hc11 D10
   replace F14 := F14.chg hc11 (D15).symm
   replace F15 := F15.chg hc11 (D19).symm
   replace F17 := F17.chg hc11 (D24).symm
   replace hB := hB.inS hc11 (inLow G5)
   refine wP 1 [(39, .pointer (some ⟨b2, 1, none⟩))] <| wS_store (T := 24) (g := b2) (o := 1) (ad := ⟨b2, 1, none⟩) (v := .slice A7 (l6 ++ (([y2.1] : List Int))).length cap7) (vs := [.slice A7 (l6 ++ (([y2.1] : List Int))).length cap7]) (by kernel_rfl) (by rfl) sz24 (by rfl) (by rfl) F16 (bl rfl) ?_
   intro w13 F19 hc12
   replace F5 := F5.chg hc12 (Dj.of L0_0 (low1 G2))
   replace F13 := F13.chg hc12 (dj1 (Dj.of L0 (low1 G2)))
   replace F7 := F7.chg hc12 (dj1 D1)
   replace F9 := F9.chg hc12 (D3).symm
   replace F14 := F14.chg hc12 (D12).symm
   replace F15 := F15.chg hc12 (D17).symm
   replace F17 := F17.chg hc12 (D22).symm
   replace F18 := F18.chg hc12 (D28).symm
   replace hB := hB.inS hc12 (inLow (low1 G2))
   replace F19 : Cl w13 b2 26 [.slice A6 (l5 ++ (([y1.1] : List Int))).length cap6, .slice A7 (l6 ++ (([y2.1] : List Int))).length cap7] := F19
   clear F16
   refine wN <| sR <| wP 2 [(41, ii y1.1), (40, .slice (ad b3) l7.length (Int.toNat 13))] ?_
   obtain ⟨x6, hx2, hm⟩ := bindE hm
   refine sI 42 (ad b3) l7.length (Int.toNat 13) .i64 y1.1 sl24 ((F9.sl encI_ok).is hx2) <| sL 43 (elA (ad b3) 1 (y1.1) 0) (ii x6) vt2 (Sl.cell (F9.sl encI_ok) hx2 0 (by rfl)) <| wP 1 [(44, ii (wr (x6 + 1)))] ?_
   obtain ⟨x7, hx3, hm⟩ := bindE hm
   refine sI 45 (ad b3) l7.length (Int.toNat 13) .i64 y1.1 sl24 ((F9.sl encI_ok).is hx3) <| wS_storeEl (x := x7) (wr (x6 + 1)) (T := 2) (U := 2) (cap := (Int.toNat 13)) (j := 0) (A := (ad b3)) (v := ii (wr (x6 + 1))) (vs := [ii (wr (x6 + 1))]) (m := y1.1) (by kernel_rfl) (by rfl) sz2 (by rfl) encI_ok F9 hx3 (bl rfl) (by rfl) ?_
   intro w14 F20 hc13
   replace F5 := F5.chg hc13 (Dj.of L0_0 G3)
   replace F13 := F13.chg hc13 (dj1 (Dj.of L0 G3))
   replace F7 := F7.chg hc13 (dj1 D2)
   replace F19 := F19.chg hc13 (dj1 D3)
   replace F14 := F14.chg hc13 (D13).symm
   replace F15 := F15.chg hc13 (D18).symm
   replace F17 := F17.chg hc13 (D23).symm
   replace F18 := F18.chg hc13 (D29).symm
   replace hB := hB.inS hc13 (inLow G3)
   clear F9
   rewrite [show l7.length = (l7.set (Int.toNat y1.1) (wr (x6 + 1))).length from (List.length_set ..).symm]
   refine wN <| cW_region <| wP 2 [(47, ii y2.1), (46, .slice (ad b3) (l7.set (Int.toNat y1.1) (wr (x6 + 1))).length (Int.toNat 13))] ?_
   obtain ⟨x8, hx4, hm⟩ := bindE hm
   refine sI 48 (ad b3) ((l7.set (Int.toNat y1.1) (wr (x6 + 1))).length) (Int.toNat 13) .i64 y2.1 sl24 ((F20.sl encI_ok).is hx4) <| sL 49 (elA (ad b3) 1 (y2.1) 0) (ii x8) vt2 (Sl.cell (F20.sl encI_ok) hx4 0 (by rfl)) <| wP 1 [(50, ii (wr (x8 + 1)))] ?_
   obtain ⟨x9, hx5, hm⟩ := bindE hm
   refine sI 51 (ad b3) ((l7.set (Int.toNat y1.1) (wr (x6 + 1))).length) (Int.toNat 13) .i64 y2.1 sl24 ((F20.sl encI_ok).is hx5) <| wS_storeEl (x := x9) (wr (x8 + 1)) (T := 2) (U := 2) (cap := (Int.toNat 13)) (j := 0) (A := (ad b3)) (v := ii (wr (x8 + 1))) (vs := [ii (wr (x8 + 1))]) (m := y2.1) (by kernel_rfl) (by rfl) sz2 (by rfl) encI_ok F20 hx5 (bl rfl) (by rfl) ?_
   intro w15 F21 hc14
   replace F5 := F5.chg hc14 (Dj.of L0_0 G3)
   replace F13 := F13.chg hc14 (dj1 (Dj.of L0 G3))
   replace F7 := F7.chg hc14 (dj1 D2)
   replace F19 := F19.chg hc14 (dj1 D3)
   replace F14 := F14.chg hc14 (D13).symm
   replace F15 := F15.chg hc14 (D18).symm
   replace F17 := F17.chg hc14 (D23).symm
   replace F18 := F18.chg hc14 (D29).symm
   replace hB := hB.inS hc14 (inLow G3)
   clear F20
   rewrite [show (l7.set (Int.toNat y1.1) (wr (x6 + 1))).length = ((l7.set (Int.toNat y1.1) (wr (x6 + 1))).set (Int.toNat y2.1) (wr (x8 + 1))).length from (List.length_set ..).symm]
   refine wE <| eX_block <| eX_then <| cP [(0, pt b0), (1, ii p1), (2, ii p2), (6, pt b1), (7, pt b2), (8, .slice (ad b3) ((l7.set (Int.toNat y1.1) (wr (x6 + 1))).set (Int.toNat y2.1) (wr (x8 + 1))).length (Int.toNat 13)), (9, ii x3)] (fun a2 => ?_)
   refine cW_region <| wP 3 [(9, ii (wr (x3 + 1))), (19, ii (wr (x3 + 1))), (18, ii x3)] <| wE ?_
   obtain rfl := someE (x := (Ctl.next ((wr (x3 + 1), l5 ++ (([y1.1] : List Int)), l6 ++ (([y2.1] : List Int)), y2.2.1, y2.2.2, (l7.set (Int.toNat y1.1) (wr (x6 + 1))).set (Int.toNat y2.1) (wr (x8 + 1)))))) hm
   exact eX_next hx1 (fun hst => ⟨wr (x3 + 1), l5 ++ (([y1.1] : List Int)), A6, cap6, fp5, l6 ++ (([y2.1] : List Int)), A7, cap7, fp6, y2.2.1, y2.2.2, (l7.set (Int.toNat y1.1) (wr (x6 + 1))).set (Int.toNat y2.1) (wr (x8 + 1)), rfl, fO hst, F5, F13, F7, F19, F21, F15, F18, G7, G9, D16, D17, D18, (D31).symm, D27, D28, D29, hB⟩)
  have hm := condF hb1 hm
  refine cW_exit <| eX_then_exit ?_
  obtain rfl := someE (x := (Ctl.out ((l5, l6, x4, x5, l7)))) hm
  refine eX_outX hx1 (fun hr2 => ?_)
  replace hr2 := hr2.symm
  subst hr2
  refine eX_block_hit ?_
  exact eX_J (fun hst => ⟨l5, A4, cap4, fp3, l6, A5, cap5, fp4, x4, x5, l7, rfl, fO hst, F5, F6, F7, F8, F9, F10, F11, G4, G5, D4, D5, D6, D7, D8, D9, D10, hB⟩)
 rintro a' w16 ⟨l1, A1, cap1, fp1, l3, A3, cap3, fp2, x1, x2, l4, hJ, hF2, F22, F23, F24, F25, F26, F27, F28, G10, G11, D33, D34, D35, D36, D37, D38, D39, hB⟩
 subst hJ
 refine gX hF2 <| eX_then <| cW_seq <| sR <| wP 1 [(12, ii 0)] <| wN ?_
 obtain ⟨r2, hr3, hm⟩ := bindE hm
 have hm2 := hm
 refine cW_cut (fun a' w' => ∃ l8 : List Int, ∃ l9 : List Int, (l8, l9) = r2 ∧ Fr 84 [(6, pt b1), (7, pt b2)] a' ∧ Sl 1 encU w' fp0_0 A0_0 l0_0 ∧ Cl w' b0 99 [.slice A0_0 l0_0.length cap0_0, ii x1, .int .u64 (x2)] ∧ Cl w' b1 26 [.slice none 0 0, .slice none 0 0] ∧ Cl w' b2 26 [.slice A1 l8.length cap1, .slice A3 l9.length cap3] ∧ O1 2 w' fp1 A1 cap1 l8 ∧ O1 2 w' fp2 A3 cap3 l9 ∧ Chg ([b0] ++ []) w0 w') ?_ ?_
 ·refine cW_block ?_
  refine cW_loop _ (fun (s2 : Int × (List Int) × (List Int)) a' w' => ∃ x10 : Int, ∃ l10 : List Int, ∃ l11 : List Int, (x10, l10, l11) = s2 ∧ Fr 84 [(1, ii p1), (6, pt b1), (7, pt b2), (8, .slice (ad b3) l4.length (Int.toNat 13)), (12, ii x10)] a' ∧ Sl 1 encU w' fp0_0 A0_0 l0_0 ∧ Cl w' b0 99 [.slice A0_0 l0_0.length cap0_0, ii x1, .int .u64 (x2)] ∧ Cl w' b1 26 [.slice none 0 0, .slice none 0 0] ∧ Cl w' b2 26 [.slice A1 l10.length cap1, .slice A3 l11.length cap3] ∧ O1 2 w' [b3] (ad b3) (Int.toNat 13) l4 ∧ O1 2 w' fp1 A1 cap1 l10 ∧ O1 2 w' fp2 A3 cap3 l11 ∧ Chg ([b0] ++ []) w0 w') hr3 (fun hst => ⟨0, l1, l3, rfl, fO hst, F22, F23, F24, F25, F26, F27, F28, hB⟩) ?_
  rintro _ c2 a' w17 ⟨x10, l10, l11, rfl, hF3, F29, F30, F31, F32, F33, F34, F35, hB⟩ hx6
  refine gO hF3 ?_
  have hm := hx6
  unfold m_sL03Dr_s2 at hm
  refine cW_seq <| sR <| wP 3 [(54, .bool (decide (x10 < p1))), (53, ii p1), (52, ii x10)] <| wN <| cC (decide (x10 < p1)) (fun hb2 => ?_) (fun hb2 => ?_)
  ·have hm := condT hb2 hm
   refine cW_skip <| eX_then <| cW_seq <| cW_block ?_
   obtain ⟨s3, hs1, hm⟩ := bindE hm
   refine cW_cut (fun a' w' => ∃ l12 : List Int, ∃ l13 : List Int, (l12, l13) = s3 ∧ Fr 84 [(1, ii p1), (6, pt b1), (7, pt b2), (8, .slice (ad b3) l4.length (Int.toNat 13)), (12, ii x10)] a' ∧ Sl 1 encU w' fp0_0 A0_0 l0_0 ∧ Cl w' b0 99 [.slice A0_0 l0_0.length cap0_0, ii x1, .int .u64 (x2)] ∧ Cl w' b1 26 [.slice none 0 0, .slice none 0 0] ∧ Cl w' b2 26 [.slice A1 l12.length cap1, .slice A3 l13.length cap3] ∧ O1 2 w' [b3] (ad b3) (Int.toNat 13) l4 ∧ O1 2 w' fp1 A1 cap1 l12 ∧ O1 2 w' fp2 A3 cap3 l13 ∧ Chg ([b0] ++ []) w0 w') ?_ ?_
   ·have hm := hs1
    refine cW_seq ?_
    obtain ⟨s4, hs2, hm⟩ := bindE hm
    refine cW_cut (fun a' w' => ∃ l14 : List Int, l14 = s4 ∧ Fr 84 [(1, ii p1), (6, pt b1), (7, pt b2), (8, .slice (ad b3) l4.length (Int.toNat 13)), (12, ii x10)] a' ∧ Sl 1 encU w' fp0_0 A0_0 l0_0 ∧ Cl w' b0 99 [.slice A0_0 l0_0.length cap0_0, ii x1, .int .u64 (x2)] ∧ Cl w' b1 26 [.slice none 0 0, .slice none 0 0] ∧ Cl w' b2 26 [.slice A1 l14.length cap1, .slice A3 l11.length cap3] ∧ O1 2 w' [b3] (ad b3) (Int.toNat 13) l4 ∧ O1 2 w' fp1 A1 cap1 l14 ∧ O1 2 w' fp2 A3 cap3 l11 ∧ Chg ([b0] ++ []) w0 w') ?_ ?_
    ·have hm := hs2
     refine sR <| wP 2 [(58, pt b2), (57, .slice (ad b3) l4.length (Int.toNat 13))] <| sL 59 ⟨b2, 0, none⟩ (.slice A1 l10.length cap1) vt24 ((F32).cell 0) <| wP 1 [(60, ii x10)] ?_
     obtain ⟨x11, hx7, hm⟩ := bindE hm
     refine sI 61 A1 l10.length cap1 .i64 x10 sl24 ((F34.sl encI_ok).is hx7) <| sL 62 (elA A1 1 (x10) 0) (ii x11) vt2 (Sl.cell (F34.sl encI_ok) hx7 0 (by rfl)) ?_
     obtain ⟨x12, hx8, hm⟩ := bindE hm
     refine sI 63 (ad b3) l4.length (Int.toNat 13) .i64 x11 sl24 ((F33.sl encI_ok).is hx8) <| sL 64 (elA (ad b3) 1 (x11) 0) (ii x12) vt2 (Sl.cell (F33.sl encI_ok) hx8 0 (by rfl)) <| wP 1 [(65, .bool (x12 == 1))] <| wN <| cC (x12 == 1) (fun hb3 => ?_) (fun hb3 => ?_)
     ·have hm := condT hb3 hm
      refine cW_region <| wP 1 [(66, pt b2)] <| sL 67 ⟨b2, 0, none⟩ (.slice A1 l10.length cap1) vt24 ((F32).cell 0) <| wP 1 [(68, ii x10)] ?_
      obtain ⟨x13, hx9, hm⟩ := bindE hm
      refine sI 69 A1 l10.length cap1 .i64 x10 sl24 ((F34.sl encI_ok).is hx9) <| wS_storeEl (x := x13) 0 (T := 2) (U := 2) (cap := cap1) (j := 0) (A := A1) (v := ii 0) (vs := [ii 0]) (m := x10) (by kernel_rfl) (by rfl) sz2 (by rfl) encI_ok F34 hx9 (bl rfl) (by rfl) ?_
      intro w18 F36 hc15
      replace F29 := F29.chg hc15 (Dj.of L0_0 G10)
      replace F30 := F30.chg hc15 (dj1 (Dj.of L0 G10))
      replace F31 := F31.chg hc15 (dj1 D33)
      replace F32 := F32.chg hc15 (dj1 D34)
      replace F33 := F33.chg hc15 D35
      replace F35 := F35.chg hc15 D36
      replace hB := hB.inS hc15 (inLow G10)
      clear F34
      rewrite [show l10.length = (l10.set (Int.toNat x10) 0).length from (List.length_set ..).symm]
      rewrite [show l10.length = (l10.set (Int.toNat x10) 0).length from (List.length_set ..).symm] at F32
      refine wE ?_
      obtain rfl := someE (x := l10.set (Int.toNat x10) 0) hm
      exact eX_J (fun hst => ⟨l10.set (Int.toNat x10) 0, rfl, fO hst, F29, F30, F31, F32, F33, F36, F35, hB⟩)
     have hm := condF hb3 hm
     refine cW_skip ?_
     obtain rfl := someE (x := l10) hm
     exact eX_J (fun hst => ⟨l10, rfl, fO hst, F29, F30, F31, F32, F33, F34, F35, hB⟩)
    rintro a' w19 ⟨l14, hJ, hF4, F37, F38, F39, F40, F41, F42, F43, hB⟩
    subst hJ
    refine gX hF4 <| eX_then <| sR <| wP 2 [(71, .pointer (some ⟨b2, 1, none⟩)), (70, .slice (ad b3) l4.length (Int.toNat 13))] <| sL 72 ⟨b2, 1, none⟩ (.slice A3 l11.length cap3) vt24 ((F40).cell 1) <| wP 1 [(73, ii x10)] ?_
    obtain ⟨x14, hx10, hm⟩ := bindE hm
    refine sI 74 A3 l11.length cap3 .i64 x10 sl24 ((F43.sl encI_ok).is hx10) <| sL 75 (elA A3 1 (x10) 0) (ii x14) vt2 (Sl.cell (F43.sl encI_ok) hx10 0 (by rfl)) ?_
    obtain ⟨x15, hx11, hm⟩ := bindE hm
    refine sI 76 (ad b3) l4.length (Int.toNat 13) .i64 x14 sl24 ((F41.sl encI_ok).is hx11) <| sL 77 (elA (ad b3) 1 (x14) 0) (ii x15) vt2 (Sl.cell (F41.sl encI_ok) hx11 0 (by rfl)) <| wP 1 [(78, .bool (x15 == 1))] <| wN <| cC (x15 == 1) (fun hb4 => ?_) (fun hb4 => ?_)
    ·have hm := condT hb4 hm
     refine cW_region <| wP 1 [(79, .pointer (some ⟨b2, 1, none⟩))] <| sL 80 ⟨b2, 1, none⟩ (.slice A3 l11.length cap3) vt24 ((F40).cell 1) <| wP 1 [(81, ii x10)] ?_
     obtain ⟨x16, hx12, hm⟩ := bindE hm
     refine sI 82 A3 l11.length cap3 .i64 x10 sl24 ((F43.sl encI_ok).is hx12) <| wS_storeEl (x := x16) 0 (T := 2) (U := 2) (cap := cap3) (j := 0) (A := A3) (v := ii 0) (vs := [ii 0]) (m := x10) (by kernel_rfl) (by rfl) sz2 (by rfl) encI_ok F43 hx12 (bl rfl) (by rfl) ?_
     intro w20 F44 hc16
     replace F37 := F37.chg hc16 (Dj.of L0_0 G11)
     replace F38 := F38.chg hc16 (dj1 (Dj.of L0 G11))
     replace F39 := F39.chg hc16 (dj1 D37)
     replace F40 := F40.chg hc16 (dj1 D38)
     replace F41 := F41.chg hc16 D39
     replace F42 := F42.chg hc16 (D36).symm
     replace hB := hB.inS hc16 (inLow G11)
     clear F43
     rewrite [show l11.length = (l11.set (Int.toNat x10) 0).length from (List.length_set ..).symm]
     rewrite [show l11.length = (l11.set (Int.toNat x10) 0).length from (List.length_set ..).symm] at F40
     refine wE ?_
     obtain rfl := someE (x := ((l14, l11.set (Int.toNat x10) 0))) hm
     exact eX_J (fun hst => ⟨l14, l11.set (Int.toNat x10) 0, rfl, fO hst, F37, F38, F39, F40, F41, F42, F44, hB⟩)
    have hm := condF hb4 hm
    refine cW_skip ?_
    obtain rfl := someE (x := ((l14, l11))) hm
    exact eX_J (fun hst => ⟨l14, l11, rfl, fO hst, F37, F38, F39, F40, F41, F42, F43, hB⟩)
   rintro a' w21 ⟨l12, l13, hJ, hF5, F45, F46, F47, F48, F49, F50, F51, hB⟩
   subst hJ
   refine gX hF5 <| eX_block <| eX_then <| cW_region <| wP 3 [(12, ii (wr (x10 + 1))), (56, ii (wr (x10 + 1))), (55, ii x10)] <| wE ?_
   obtain rfl := someE (x := (Ctl.next ((wr (x10 + 1), l12, l13)))) hm
   exact eX_next hx6 (fun hst => ⟨wr (x10 + 1), l12, l13, rfl, fO hst, F45, F46, F47, F48, F49, F50, F51, hB⟩)
  have hm := condF hb2 hm
  refine cW_exit <| eX_then_exit ?_
  obtain rfl := someE (x := (Ctl.out ((l10, l11)))) hm
  refine eX_outX hx6 (fun hr4 => ?_)
  replace hr4 := hr4.symm
  subst hr4
  refine eX_block_hit ?_
  exact eX_J (fun hst => ⟨l10, l11, rfl, fO hst, F29, F30, F31, F32, F34, F35, hB⟩)
 rintro a' w22 ⟨l8, l9, hJ, hF6, F52, F53, F54, F55, F56, F57, hB⟩
 subst hJ
 refine gX hF6 <| eX_then <| sR <| wS_loadA (d := 83) (T := 26) (ad := ⟨b2, 0, none⟩) (vs := [.slice A1 l8.length cap1, .slice A3 l9.length cap3]) (by kernel_rfl) vt26 (fun i u hu => box_cells F55 0 hu (by rfl)) ?_
 refine wS_store (T := 26) (g := b1) (o := 0) (ad := ⟨b1, 0, none⟩) (v := .agg #[.slice A1 l8.length cap1, .slice A3 l9.length cap3]) (vs := [.slice A1 l8.length cap1, .slice A3 l9.length cap3]) (by kernel_rfl) (by rfl) sz26 (by rfl) (by rfl) F54 (bl rfl) ?_
 intro w23 F58 hc17
 replace F52 := F52.chg hc17 (Dj.of L0_0 (low1 G1))
 replace F53 := F53.chg hc17 (dj1 (Dj.of L0 (low1 G1)))
 replace F55 := F55.chg hc17 (dj1 (D1).symm)
 replace F56 := F56.chg hc17 (D33).symm
 replace F57 := F57.chg hc17 (D37).symm
 replace hB := hB.inS hc17 (inLow (low1 G1))
 replace F58 : Cl w23 b1 26 [.slice A1 l8.length cap1, .slice A3 l9.length cap3] := F58
 clear F54
 refine wN <| cW_ret ?_
 obtain rfl := someE (x := (((l8, l9), x1, x2))) hm
 refine eX_ret (vs := [.agg #[.slice A1 l8.length cap1, .slice A3 l9.length cap3]]) [.cell 6 26] (by rfl) ⟨⟨⟨b1, 0, none⟩, by kernel_rfl, run_loadVarA (vs := [.slice A1 l8.length cap1, .slice A3 l9.length cap3]) vt26 (fun i u hu => by exact box_cells F58 0 hu (by rfl))⟩, trivial⟩ ?_
 exact ⟨A1, cap1, fp1, A3, cap3, fp2, rfl, F56, G10, F57, G11, (D36).symm, F53, hB⟩

set_option maxRecDepth 100000 in
theorem c_sB10Ch {w0 l0 A0 cap0 fp0} {r : ((List Int) × (List Int))} (hm : m_sB10Ch l0 = some r) (F0 : Sl 1 encU w0 fp0 A0 l0) :
  Calls Tryd.prog 8 #[.slice A0 l0.length cap0] w0 fun e w' => ∃ A100_0 cap100_0 fp100_0, ∃ A100_1 cap100_1 fp100_1, e = .returned (.agg #[.slice A100_0 r.1.length cap100_0, .slice A100_1 r.2.length cap100_1]) ∧ O1 2 w' fp100_0 A100_0 cap100_0 r.1 ∧ (∀ x ∈ fp100_0, w0.heap.size ≤ x) ∧ O1 2 w' fp100_1 A100_1 cap100_1 r.2 ∧ (∀ x ∈ fp100_1, w0.heap.size ≤ x) ∧ Dj fp100_0 fp100_1 ∧ Chg [] w0 w' := by
 have L0 := F0.low
 have hB : Chg [] w0 w0 := Chg.refl _ _
 unfold m_sB10Ch at hm
 refine enterE (N := 16) Tryd.func8 (by rfl) Tryd.ntmps8 (by simp) [(0, .slice A0 l0.length cap0)] (by rfl) (by kernel_rfl) (fun a => ?_)
 refine sR <| wS_alloc (d := 2) (T := 26) (z := .agg #[.slice none 0 0, .slice none 0 0]) (by kernel_rfl) (by kernel_rfl) ?_
 intro b1 w1 G1 F1 hc1
 replace F1 : Cl w1 b1 26 [.slice none 0 0, .slice none 0 0] := F1
 replace F0 := F0.c hc1
 replace G1 := Nat.le_trans hB.size G1
 replace hB := hB.q hc1
 refine wN <| sR <| wP 1 [(5, .slice A0 l0.length cap0)] ?_
 obtain ⟨y1, hy1, hm⟩ := bindE hm
 refine sC 6 [.slice A0 l0.length cap0] ent33 (c_spec_l00From hy1 F0) ?_
 rintro _ w2 ⟨b2, rfl, F2, G2, hc2⟩
 have D1 := Dj.of (lt1 F1.lt) (low1 G2)
 replace F0 := F0.c hc2
 replace F1 := F1.c hc2
 replace G2 := Nat.le_trans hB.size G2
 replace hB := hB.q hc2
 refine ⟨pt b2, rfl, ?_⟩
 refine wP 1 [(3, pt b2)] <| wN <| sR <| wP 1 [(7, pt b2)] ?_
 obtain ⟨y2, hy2, hm⟩ := bindE hm
 refine sC 8 [pt b2, ii 8] ent34 (c_sL00SrPick hy2 F0 F2 (Dj.of L0 (low1 G2)).symm) ?_
 rintro _ w3 ⟨rfl, F3, hc3⟩
 replace F0 := F0.chg hc3 (Dj.app (Dj.of L0 (low1 G2)) Dj.nil)
 replace F1 := F1.chg hc3 (dj1 (Dj.app D1 Dj.nil))
 replace hB := hB.inS hc3 (inApp (inLow (low1 G2)) inNil)
 clear F2
 refine ⟨ii y2.1, rfl, ?_⟩
 refine wP 2 [(4, ii (wr (1 + y2.1))), (9, ii (wr (1 + y2.1)))] <| wN <| sR <| wP 3 [(12, pt b2), (11, ii (wr (1 + y2.1))), (10, pt b2)] ?_
 obtain ⟨y3, hy3, hm⟩ := bindE hm
 refine sC 13 [pt b2, ii 5] ent34 (c_sL00SrPick hy3 F0 F3 (Dj.of L0 (low1 G2)).symm) ?_
 rintro _ w4 ⟨rfl, F4, hc4⟩
 replace F0 := F0.chg hc4 (Dj.app (Dj.of L0 (low1 G2)) Dj.nil)
 replace F1 := F1.chg hc4 (dj1 (Dj.app D1 Dj.nil))
 replace hB := hB.inS hc4 (inApp (inLow (low1 G2)) inNil)
 clear F3
 refine ⟨ii y3.1, rfl, ?_⟩
 refine wP 1 [(14, ii (wr (1 + y3.1)))] ?_
 obtain ⟨y4, hy4, hm⟩ := bindE hm
 refine sC 15 [pt b2, ii (wr (1 + y2.1)), ii (wr (1 + y3.1))] ent35 (c_sL03Dr hy4 F0 F4 (Dj.of L0 (low1 G2)).symm) ?_
 rintro _ w5 ⟨A1, cap1, fp1, A2, cap2, fp2, rfl, F5, G3, F6, G4, D2, F7, hc5⟩
 have D3 := Dj.of (lt1 F1.lt) G3
 have D4 := Dj.of (lt1 F4.lt) G3
 have D5 := Dj.of (lt1 F1.lt) G4
 have D6 := Dj.of (lt1 F4.lt) G4
 replace F0 := F0.chg hc5 (Dj.app (Dj.of L0 (low1 G2)) Dj.nil)
 replace F1 := F1.chg hc5 (dj1 (Dj.app D1 Dj.nil))
 replace G3 := low_le hB.size G3
 replace G4 := low_le hB.size G4
 replace hB := hB.inS hc5 (inApp (inLow (low1 G2)) inNil)
 clear F4
 refine ⟨.agg #[.slice A1 y4.1.1.length cap1, .slice A2 y4.1.2.length cap2], rfl, ?_⟩
 refine wS_store (T := 26) (g := b1) (o := 0) (ad := ⟨b1, 0, none⟩) (v := .agg #[.slice A1 y4.1.1.length cap1, .slice A2 y4.1.2.length cap2]) (vs := [.slice A1 y4.1.1.length cap1, .slice A2 y4.1.2.length cap2]) (by kernel_rfl) (by rfl) sz26 (by rfl) (by rfl) F1 (bl rfl) ?_
 intro w6 F8 hc6
 replace F0 := F0.chg hc6 (Dj.of L0 (low1 G1))
 replace F7 := F7.chg hc6 (dj1 (D1).symm)
 replace F5 := F5.chg hc6 (D3).symm
 replace F6 := F6.chg hc6 (D5).symm
 replace hB := hB.inS hc6 (inLow (low1 G1))
 replace F8 : Cl w6 b1 26 [.slice A1 y4.1.1.length cap1, .slice A2 y4.1.2.length cap2] := F8
 clear F1
 refine wN <| cW_ret ?_
 obtain rfl := someE (x := ((y4.1.1, y4.1.2))) hm
 refine eX_ret (vs := [.agg #[.slice A1 y4.1.1.length cap1, .slice A2 y4.1.2.length cap2]]) [.cell 2 26] (by rfl) ⟨⟨⟨b1, 0, none⟩, by kernel_rfl, run_loadVarA (vs := [.slice A1 y4.1.1.length cap1, .slice A2 y4.1.2.length cap2]) vt26 (fun i u hu => by exact box_cells F8 0 hu (by rfl))⟩, trivial⟩ ?_
 exact ⟨A1, cap1, fp1, A2, cap2, fp2, rfl, F5, G3, F6, G4, D2, hB⟩

set_option maxRecDepth 100000 in
theorem c_impl_in {w0 p0 p1 p2} {r : Bool} (hm : m_impl_in p0 p1 p2 = some r)  :
  Calls Tryd.prog 75 #[ii p0, ii p1, ii p2] w0 fun e w' => e = .returned (.bool (r)) ∧ Chg [] w0 w' := by
 have hB : Chg [] w0 w0 := Chg.refl _ _
 unfold m_impl_in at hm
 refine enterE (N := 15) Tryd.func75 (by rfl) Tryd.ntmps75 (by simp) [(0, ii p0), (1, ii p1), (2, ii p2)] (by rfl) (by kernel_rfl) (fun a => ?_)
 refine sR <| wP 1 [(6, .bool (false))] <| wN <| sR <| wP 4 [(10, .bool (decide (p0 ≥ p1))), (9, .bool (decide (p0 ≥ p1))), (8, ii p1), (7, ii p0)] <| wS_bool (decide (p0 ≥ p1)) (fun hb1 => ?_) (fun hb1 => ?_)
 ·have hm := condT hb1 hm
  rewrite [hb1]
  refine wP 5 [(6, .bool (decide (p0 ≤ p2))), (14, .bool (decide (p0 ≤ p2))), (13, .bool (decide (p0 ≤ p2))), (12, ii p2), (11, ii p0)] <| wN <| cW_ret ?_
  obtain rfl := someE (x := decide (p0 ≤ p2)) hm
  refine rA (.bool (decide (p0 ≤ p2))) 6 ?_
  exact ⟨rfl, hB⟩
 have hm := condF hb1 hm
 rewrite [hb1]
 refine wP 5 [(6, .bool (false)), (14, .bool (false)), (13, undef), (12, undef), (11, undef)] <| wN <| cW_ret ?_
 obtain rfl := someE (x := false) hm
 refine rA (.bool (false)) 6 ?_
 exact ⟨rfl, hB⟩

set_option maxRecDepth 100000 in
theorem c_sGrowNil {w0 p1} {r : (List Int)} (hm : m_sGrowNil p1 = some r)  :
  Calls Tryd.prog 101 #[.slice none 0 0, ii p1] w0 fun e w' => ∃ A100 cap100 fp100, e = .returned (.slice A100 r.length cap100) ∧ O1 2 w' fp100 A100 cap100 r ∧ (∀ x ∈ fp100, w0.heap.size ≤ x) ∧ Chg [] w0 w' := by
 have hB : Chg [] w0 w0 := Chg.refl _ _
 unfold m_sGrowNil at hm
 refine enterE (N := 27) Tryd.func101 (by rfl) Tryd.ntmps101 (by simp) [(0, .slice none 0 0), (1, ii p1)] (by rfl) (by kernel_rfl) (fun a => ?_)
 refine sR <| wP 1 [(4, .slice none 0 0)] <| wN <| cW_seq ?_
 obtain ⟨s1, hs1, hm⟩ := bindE hm
 refine cW_cut (fun a' w' => () = s1 ∧ Fr 27 [(0, .slice none 0 0), (1, ii p1)] a' ∧ Chg [] w0 w') ?_ ?_
 ·have hm := hs1
  refine sR <| wP 2 [(6, .bool (decide (p1 < 0))), (5, ii p1)] <| wN <| cC (decide (p1 < 0)) (fun hb1 => ?_) (fun hb1 => ?_)
  ·have hm := condT hb1 hm
   refine cW_region ?_
   exact noneE hm
  have hm := condF hb1 hm
  refine cW_skip ?_
  obtain rfl := someE (x := ()) hm
  exact eX_J (fun hst => ⟨rfl, fO hst, hB⟩)
 rintro a' w1 ⟨hJ, hF1, hB⟩
 subst hJ
 refine gX hF1 <| eX_then <| cW_seq ?_
 obtain ⟨s2, hs2, hm⟩ := bindE hm
 refine cW_cut (fun a' w' => ∃ l1 : List Int, ∃ A1 : Option Addr, ∃ cap1 : Nat, ∃ fp1 : List Nat, l1 = s2 ∧ Fr 27 [(0, .slice A1 l1.length cap1)] a' ∧ O1 2 w' fp1 A1 cap1 l1 ∧ (∀ x ∈ fp1, w0.heap.size ≤ x) ∧ Chg [] w0 w') ?_ ?_
 ·have hm := hs2
  refine sR <| wP 8 [(1, ii (wr (p1 - (wr (0 - 0))))), (14, ii (wr (p1 - (wr (0 - 0))))), (13, ii (wr (0 - 0))), (12, ii 0), (11, .slice none 0 0), (10, ii 0), (9, .slice none 0 0), (8, ii p1)] <| wN <| sR <| wP 2 [(16, .bool (decide ((wr (p1 - (wr (0 - 0)))) > 0))), (15, ii (wr (p1 - (wr (0 - 0)))))] <| wN <| cC (decide ((wr (p1 - (wr (0 - 0)))) > 0)) (fun hb2 => ?_) (fun hb2 => ?_)
  ·have hm := condT hb2 hm
   refine cW_region <| wP 5 [(21, ii (wr (p1 - (wr (0 - 0))))), (20, .slice none 0 0), (19, ii 0), (18, .slice none 0 0), (17, .slice none 0 0)] ?_
   obtain ⟨_, hk1, hm⟩ := bindE hm
   replace hk1 := mkE hk1
   obtain ⟨_, hp1, hm⟩ := bindE hm
   replace hp1 := of_decide_eq_true (chkE hp1)
   refine wS_appZ (enc := encI) (x0 := (0 : Int)) (d := 22) (t := 24) (tn := 3) (T := 2) (kn := .i64) (m := wr (p1 - (wr (0 - 0)))) (by kernel_rfl) el24 ity3 encI_ok (by rfl) hk1.1 hk1.2 hp1 ?_
   intro b1 w2 cap2 G1 F1 hc1
   replace G1 := Nat.le_trans hB.size G1
   replace G1 := low1 G1
   replace hB := hB.q hc1
   refine wP 2 [(24, ii 0), (23, .slice none 0 0)] ?_
   obtain ⟨y1, hy1, hm⟩ := bindE hm
   refine wS_prefix (k := 1) (enc := encI) (U := 2) (l := List.replicate (Int.toNat (wr (p1 - (wr (0 - 0))))) ((0 : Int))) (d := 25) (T := 24) (A := (ad b1)) (cap := cap2) (hi := 0) (by kernel_rfl) sl24 encI_ok F1 F1.cap_le hy1 ?_
   intro hpe F2
   subst hpe
   refine wP 1 [(0, .slice (ad b1) ((List.replicate (Int.toNat (wr (p1 - (wr (0 - 0))))) ((0 : Int))).take (Int.toNat 0)).length cap2)] <| wE ?_
   obtain rfl := someE (x := ((List.replicate (Int.toNat (wr (p1 - (wr (0 - 0))))) ((0 : Int))).take (Int.toNat 0))) hm
   exact eX_J (fun hst => ⟨(List.replicate (Int.toNat (wr (p1 - (wr (0 - 0))))) ((0 : Int))).take (Int.toNat 0), (ad b1), cap2, [b1], rfl, fO hst, F2, G1, hB⟩)
  have hm := condF hb2 hm
  refine cW_skip ?_
  obtain rfl := someE (x := (([] : List Int))) hm
  exact eX_J (fun hst => ⟨[], none, 0, [], rfl, fO hst, Ow.nil _, lowNil, hB⟩)
 rintro a' w3 ⟨l1, A1, cap1, fp1, hJ, hF2, F3, G2, hB⟩
 subst hJ
 refine gX hF2 <| eX_then <| sR <| wP 2 [(4, .slice A1 l1.length cap1), (26, .slice A1 l1.length cap1)] <| wN <| cW_ret ?_
 obtain rfl := someE (x := l1) hm
 refine rA (.slice A1 l1.length cap1) 4 ?_
 exact ⟨A1, cap1, fp1, rfl, F3, G2, hB⟩

set_option maxRecDepth 100000 in
theorem c_sConca {w0} {l0 : List (List Int)} {A0 : Option Addr} {cap0 : Nat} {fp0 : List Nat} {r : (List Int)} (hm : m_sConca l0 = some r) (F0 : SlR 1 encI w0 fp0 A0 l0) :
  Calls Tryd.prog 76 #[.slice A0 l0.length cap0] w0 fun e w' => ∃ A100 cap100 fp100, e = .returned (.slice A100 r.length cap100) ∧ O1 2 w' fp100 A100 cap100 r ∧ (∀ x ∈ fp100, w0.heap.size ≤ x) ∧ Chg [] w0 w' := by
 have L0 := F0.low
 have hB : Chg [] w0 w0 := Chg.refl _ _
 unfold m_sConca at hm
 refine enterE (N := 36) Tryd.func76 (by rfl) Tryd.ntmps76 (by simp) [(0, .slice A0 l0.length cap0)] (by rfl) (by kernel_rfl) (fun a => ?_)
 refine sR <| wP 1 [(2, .slice none 0 0)] <| wN <| sR <| wP 1 [(3, ii 0)] <| wN <| cW_seq <| sR <| wP 3 [(11, ii 0), (10, ii (l0.length : Int)), (9, .slice A0 l0.length cap0)] <| wN ?_
 obtain ⟨r1, hr1, hm⟩ := bindE hm
 have hm1 := hm
 refine cW_cut (fun a' w' => ∃ x1 : Int, x1 = r1 ∧ Fr 36 [(0, .slice A0 l0.length cap0), (3, ii x1)] a' ∧ SlR 1 encI w' fp0 A0 l0 ∧ Chg [] w0 w') ?_ ?_
 ·refine cW_block ?_
  refine cW_loop _ (fun (s1 : Int × Int) a' w' => ∃ x2 : Int, ∃ x3 : Int, (x2, x3) = s1 ∧ Fr 36 [(0, .slice A0 l0.length cap0), (3, ii x2), (9, .slice A0 l0.length cap0), (10, ii (l0.length : Int)), (11, ii x3)] a' ∧ SlR 1 encI w' fp0 A0 l0 ∧ Chg [] w0 w') hr1 (fun hst => ⟨0, 0, rfl, fO hst, F0, hB⟩) ?_
  rintro _ c1 a' w1 ⟨x2, x3, rfl, hF1, F1, hB⟩ hx1
  refine gO hF1 ?_
  have hm := hx1
  unfold m_sConca_s1 at hm
  refine sR <| wP 1 [(12, .bool (decide (x3 < ((l0.length : Int)))))] <| wN <| cW_seq <| cC (decide (x3 < ((l0.length : Int)))) (fun hb1 => ?_) (fun hb1 => ?_)
  ·have hm := condT hb1 hm
   refine cW_skip <| eX_then <| cW_seq <| cW_block ?_
   obtain ⟨s2, hs1, hm⟩ := bindE hm
   refine cW_cut (fun a' w' => ∃ x4 : Int, x4 = s2 ∧ Fr 36 [(0, .slice A0 l0.length cap0), (3, ii x4), (9, .slice A0 l0.length cap0), (10, ii (l0.length : Int)), (11, ii x3)] a' ∧ SlR 1 encI w' fp0 A0 l0 ∧ Chg [] w0 w') ?_ ?_
   ·have hm := hs1
    refine sR ?_
    obtain ⟨x5, hx2, hm⟩ := bindE hm
    refine sI 13 A0 l0.length cap0 .i64 x3 sl28 (F1.is hx2) ?_
    obtain ⟨A1, cap1, hc1, F2, K1⟩ := SlR.row F1 hx2
    refine sL 14 (elA A0 1 (x3) 0) (.slice A1 x5.length cap1) vt24 hc1 <| wP 1 [(5, .slice A1 x5.length cap1)] <| wN <| sR <| wP 5 [(3, ii (wr (x2 + ((x5.length : Int))))), (18, ii (wr (x2 + ((x5.length : Int))))), (17, ii (x5.length : Int)), (16, .slice A1 x5.length cap1), (15, ii x2)] <| wN <| sR <| wP 2 [(20, .bool (decide ((wr (x2 + ((x5.length : Int)))) < 0))), (19, ii (wr (x2 + ((x5.length : Int)))))] <| wN <| cC (decide ((wr (x2 + ((x5.length : Int)))) < 0)) (fun hb2 => ?_) (fun hb2 => ?_)
    ·have hm := condT hb2 hm
     refine cW_region ?_
     exact noneE hm
    have hm := condF hb2 hm
    refine cW_skip ?_
    obtain rfl := someE (x := (wr (x2 + ((x5.length : Int))))) hm
    exact eX_J (fun hst => ⟨wr (x2 + ((x5.length : Int))), rfl, fO hst, F1, hB⟩)
   rintro a' w2 ⟨x4, hJ, hF2, F3, hB⟩
   subst hJ
   refine gX hF2 <| eX_block <| eX_then <| cW_region <| wP 2 [(11, ii (wr (x3 + 1))), (22, ii (wr (x3 + 1)))] <| wE ?_
   obtain rfl := someE (x := (Ctl.next ((x4, wr (x3 + 1))))) hm
   exact eX_next hx1 (fun hst => ⟨x4, wr (x3 + 1), rfl, fO hst, F3, hB⟩)
  have hm := condF hb1 hm
  refine cW_exit <| eX_then_exit ?_
  obtain rfl := someE (x := Ctl.out x2) hm
  refine eX_outX hx1 (fun hr2 => ?_)
  replace hr2 := hr2.symm
  subst hr2
  refine eX_block_hit ?_
  exact eX_J (fun hst => ⟨x2, rfl, fO hst, F1, hB⟩)
 rintro a' w3 ⟨x1, hJ, hF3, F4, hB⟩
 subst hJ
 refine gX hF3 <| eX_then <| sR <| wP 1 [(23, ii x1)] ?_
 obtain ⟨y1, hy1, hm⟩ := bindE hm
 refine sC 24 [.slice none 0 0, ii x1] ent101 (c_sGrowNil hy1) ?_
 rintro _ w4 ⟨A3, cap3, fp1, rfl, F5, G1, hc2⟩
 replace F4 := F4.c hc2
 replace G1 := low_le hB.size G1
 replace hB := hB.q hc2
 refine ⟨.slice A3 y1.length cap3, rfl, ?_⟩
 refine wP 1 [(6, .slice A3 y1.length cap3)] <| wN <| cW_seq <| sR <| wP 3 [(27, ii 0), (26, ii (l0.length : Int)), (25, .slice A0 l0.length cap0)] <| wN ?_
 obtain ⟨r2, hr3, hm⟩ := bindE hm
 have hm2 := hm
 refine cW_cut (fun a' w' => ∃ l1 : List Int, ∃ A4 : Option Addr, ∃ cap4 : Nat, ∃ fp2 : List Nat, l1 = r2 ∧ Fr 36 [(6, .slice A4 l1.length cap4)] a' ∧ O1 2 w' fp2 A4 cap4 l1 ∧ (∀ x ∈ fp2, w0.heap.size ≤ x) ∧ Chg [] w0 w') ?_ ?_
 ·refine cW_block ?_
  refine cW_loop _ (fun (s3 : (List Int) × Int) a' w' => ∃ l3 : List Int, ∃ A5 : Option Addr, ∃ cap5 : Nat, ∃ fp3 : List Nat, ∃ x6 : Int, (l3, x6) = s3 ∧ Fr 36 [(6, .slice A5 l3.length cap5), (25, .slice A0 l0.length cap0), (26, ii (l0.length : Int)), (27, ii x6)] a' ∧ SlR 1 encI w' fp0 A0 l0 ∧ O1 2 w' fp3 A5 cap5 l3 ∧ (∀ x ∈ fp3, w0.heap.size ≤ x) ∧ Chg [] w0 w') hr3 (fun hst => ⟨y1, A3, cap3, fp1, 0, rfl, fO hst, F4, F5, G1, hB⟩) ?_
  rintro _ c2 a' w5 ⟨l3, A5, cap5, fp3, x6, rfl, hF4, F6, F7, G2, hB⟩ hx3
  refine gO hF4 ?_
  have hm := hx3
  unfold m_sConca_s2 at hm
  refine sR <| wP 1 [(28, .bool (decide (x6 < ((l0.length : Int)))))] <| wN <| cW_seq <| cC (decide (x6 < ((l0.length : Int)))) (fun hb3 => ?_) (fun hb3 => ?_)
  ·have hm := condT hb3 hm
   refine cW_skip <| eX_then <| cW_seq <| cW_block <| sR ?_
   obtain ⟨x7, hx4, hm⟩ := bindE hm
   refine sI 29 A0 l0.length cap0 .i64 x6 sl28 (F6.is hx4) ?_
   obtain ⟨A6, cap6, hc3, F8, K2⟩ := SlR.row F6 hx4
   refine sL 30 (elA A0 1 (x6) 0) (.slice A6 x7.length cap6) vt24 hc3 <| wP 1 [(8, .slice A6 x7.length cap6)] <| wN <| cW_region <| wP 2 [(32, .slice A6 x7.length cap6), (31, .slice A5 l3.length cap5)] ?_
   obtain ⟨_, hk1, hm⟩ := bindE hm
   replace hk1 := apE hk1
   refine wS_appendAny (enc := encI) (l := (l3 : List Int)) (l2 := (x7 : List Int)) (d := 33) (t := 24) (T := 2) (A := A5) (A2 := A6) (cap := cap5) (cap2 := cap6) (by kernel_rfl) el24 encI_ok F7 F8 hk1 ?_
   intro w6 fp4 A7 cap7 F9 hc4 hp1
   have G3 := low_ap G2 hB.size hp1
   replace F6 := F6.chg hc4 (Dj.of L0 G2)
   replace F8 := F8.chg hc4 (Dj.of L0 G2)
   replace hB := hB.inS hc4 (inLow G2)
   refine wP 1 [(6, .slice A7 (l3 ++ x7).length cap7)] <| wE <| eX_block <| eX_then <| cW_region <| wP 2 [(27, ii (wr (x6 + 1))), (34, ii (wr (x6 + 1)))] <| wE ?_
   obtain rfl := someE (x := (Ctl.next ((l3 ++ x7, wr (x6 + 1))))) hm
   exact eX_next hx3 (fun hst => ⟨l3 ++ x7, A7, cap7, fp4, wr (x6 + 1), rfl, fO hst, F6, F9, G3, hB⟩)
  have hm := condF hb3 hm
  refine cW_exit <| eX_then_exit ?_
  obtain rfl := someE (x := Ctl.out l3) hm
  refine eX_outX hx3 (fun hr4 => ?_)
  replace hr4 := hr4.symm
  subst hr4
  refine eX_block_hit ?_
  exact eX_J (fun hst => ⟨l3, A5, cap5, fp3, rfl, fO hst, F7, G2, hB⟩)
 rintro a' w7 ⟨l1, A4, cap4, fp2, hJ, hF5, F10, G4, hB⟩
 subst hJ
 refine gX hF5 <| eX_then <| sR <| wP 2 [(2, .slice A4 l1.length cap4), (35, .slice A4 l1.length cap4)] <| wN <| cW_ret ?_
 obtain rfl := someE (x := l1) hm
 refine rA (.slice A4 l1.length cap4) 2 ?_
 exact ⟨A4, cap4, fp2, rfl, F10, G4, hB⟩

set_option maxRecDepth 100000 in
theorem c_iValid {w0 l0_0 A0_0 cap0_0 fp0_0 l0_1 A0_1 cap0_1 fp0_1} {r : Bool} (hm : m_iValid l0_0 l0_1 = some r) (F0_0 : S1 w0 fp0_0 A0_0 l0_0) (K0_0 : l0_0.length ≤ cap0_0) (F0_1 : S1 w0 fp0_1 A0_1 l0_1) (K0_1 : l0_1.length ≤ cap0_1) :
  Calls Tryd.prog 36 #[.agg #[.slice A0_0 l0_0.length cap0_0, .slice A0_1 l0_1.length cap0_1]] w0 fun e w' => e = .returned (.bool (r)) ∧ Chg [] w0 w' := by
 have L0_0 := F0_0.low
 have L0_1 := F0_1.low
 have hB : Chg [] w0 w0 := Chg.refl _ _
 unfold m_iValid at hm
 refine enterE (N := 55) Tryd.func36 (by rfl) Tryd.ntmps36 (by simp) [(0, .agg #[.slice A0_0 l0_0.length cap0_0, .slice A0_1 l0_1.length cap0_1])] (by rfl) (by kernel_rfl) (fun a => ?_)
 refine sR <| wS_box (d := 1) (T := 26) (x := .agg #[.slice A0_0 l0_0.length cap0_0, .slice A0_1 l0_1.length cap0_1]) (by kernel_rfl) ?_
 intro b1 w1 G1 F1 hc1
 replace F1 : Cl w1 b1 26 [.slice A0_0 l0_0.length cap0_0, .slice A0_1 l0_1.length cap0_1] := F1
 replace F0_0 := F0_0.c hc1
 replace F0_1 := F0_1.c hc1
 replace G1 := Nat.le_trans hB.size G1
 replace hB := hB.q hc1
 refine wP 1 [(2, .bool (false))] <| wN <| cW_seq <| sR <| wP 1 [(8, pt b1)] <| sL 9 ⟨b1, 0, none⟩ (.slice A0_0 l0_0.length cap0_0) vt24 ((F1).cell 0) <| wP 1 [(10, ii (l0_0.length : Int))] ?_
 obtain ⟨y1, hy1, hm⟩ := bindE hm
 refine sC 11 [ii (l0_0.length : Int), ii 1, ii 24] ent75 (c_impl_in hy1) ?_
 rintro _ w2 ⟨rfl, hc2⟩
 replace F0_0 := F0_0.c hc2
 replace F0_1 := F0_1.c hc2
 replace F1 := F1.c hc2
 replace hB := hB.q hc2
 refine ⟨.bool (y1), rfl, ?_⟩
 refine wP 2 [(13, .bool (!y1)), (12, .bool (!y1))] <| wS_bool (!y1) (fun hb1 => ?_) (fun hb1 => ?_)
 ·have hm := condT hb1 hm
  rewrite [hb1]
  refine wP 8 [(21, .bool (true)), (20, undef), (19, undef), (18, undef), (17, undef), (16, undef), (15, undef), (14, undef)] <| wN <| cCt <| sR <| wP 1 [(2, .bool (false))] <| wN <| cW_ret <| eX_then_ret ?_
  obtain rfl := someE (x := false) hm
  refine rA (.bool (false)) 2 ?_
  exact ⟨rfl, hB⟩
 have hm := condF hb1 hm
 rewrite [hb1]
 refine wP 1 [(14, .pointer (some ⟨b1, 1, none⟩))] <| sL 15 ⟨b1, 1, none⟩ (.slice A0_1 l0_1.length cap0_1) vt24 ((F1).cell 1) <| wP 2 [(17, pt b1), (16, ii (l0_1.length : Int))] <| sL 18 ⟨b1, 0, none⟩ (.slice A0_0 l0_0.length cap0_0) vt24 ((F1).cell 0) <| wP 3 [(21, .bool (((l0_1.length : Int)) != ((l0_0.length : Int)))), (20, .bool (((l0_1.length : Int)) != ((l0_0.length : Int)))), (19, ii (l0_0.length : Int))] <| wN <| cC (((l0_1.length : Int)) != ((l0_0.length : Int))) (fun hb2 => ?_) (fun hb2 => ?_)
 ·have hm := condT hb2 hm
  refine sR <| wP 1 [(2, .bool (false))] <| wN <| cW_ret <| eX_then_ret ?_
  obtain rfl := someE (x := false) hm
  refine rA (.bool (false)) 2 ?_
  exact ⟨rfl, hB⟩
 have hm := condF hb2 hm
 refine cW_skip <| eX_then <| sR <| wS_makeMap (V := Int) (d := 22) (T := 102) (by kernel_rfl) okI kI kI ?_
 intro b2 w3 G2 F2 hc3
 have D1 := Dj.of (lt1 F1.lt) (low1 G2)
 replace F0_0 := F0_0.c hc3
 replace F0_1 := F0_1.c hc3
 replace F1 := F1.c hc3
 replace G2 := Nat.le_trans hB.size G2
 replace G2 := low1 G2
 replace hB := hB.q hc3
 refine wP 1 [(3, .map (some b2))] <| wN <| cW_seq <| sR <| wP 1 [(23, pt b1)] <| sL 24 ⟨b1, 0, none⟩ (.slice A0_0 l0_0.length cap0_0) vt24 ((F1).cell 0) <| wP 1 [(25, .pointer (some ⟨b1, 1, none⟩))] <| sL 26 ⟨b1, 1, none⟩ (.slice A0_1 l0_1.length cap0_1) vt24 ((F1).cell 1) <| wS_rowsL2 (k := 1) (enc := encI) (l1 := l0_0) (B1 := A0_0) (c1 := cap0_0) (l2 := l0_1) (B2 := A0_1) (c2 := cap0_1) (d := 27) (t := 28) (T := 24) (by kernel_rfl) el28 F0_0 K0_0 F0_1 K0_1 ?_
 intro b3 w4 G3 F3 hc4
 have K1 := F3.cap_le
 have F4 := F3.slr
 have Gm1 := low1 (Nat.le_trans hB.size G3)
 have Rt1 : Rt w0.heap.size (fp0_0 ++ (fp0_1 ++ [])) ([b3] ++ (fp0_0 ++ (fp0_1 ++ []))) := Rt.app (Rt.low Gm1) (Rt.app (Rt.mem (fun x hx => (List.mem_append_left _ hx))) (Rt.app (Rt.mem (fun x hx => (List.mem_append_right _ (List.mem_append_left _ hx)))) Rt.nil))
 have D2 := Dj.of (lt1 F1.lt) (low1 G3)
 have D3 : Dj [b1] ([b3] ++ (fp0_0 ++ (fp0_1 ++ []))) := Dj.app D2 (Dj.app (Dj.of L0_0 (low1 G1)).symm (Dj.app (Dj.of L0_1 (low1 G1)).symm Dj.nil))
 have D4 := Dj.of F2.low (low1 G3)
 have D5 : Dj [b2] ([b3] ++ (fp0_0 ++ (fp0_1 ++ []))) := Dj.app D4 (Dj.app (Dj.of L0_0 G2).symm (Dj.app (Dj.of L0_1 G2).symm Dj.nil))
 replace F0_0 := F0_0.c hc4
 replace F0_1 := F0_1.c hc4
 replace F1 := F1.c hc4
 replace F2 := F2.c hc4
 replace hB := hB.q hc4
 obtain ⟨y2, hy2, hm⟩ := bindE hm
 refine sC 28 [.slice (ad b3) (([l0_0, l0_1] : List (List Int))).length 2] ent76 (c_sConca hy2 F4) ?_
 rintro _ w5 ⟨A1, cap1, fp1, rfl, F5, G4, hc5⟩
 have D6 := Dj.of (lt1 F1.lt) G4
 have D7 := Dj.of F2.low G4
 have D8 : Dj ([b3] ++ (fp0_0 ++ (fp0_1 ++ []))) fp1 := Dj.of F4.low G4
 replace F0_0 := F0_0.c hc5
 replace F0_1 := F0_1.c hc5
 replace F1 := F1.c hc5
 replace F2 := F2.c hc5
 replace F4 := F4.c hc5
 replace F3 := F3.c hc5
 replace G4 := low_le hB.size G4
 replace hB := hB.q hc5
 refine ⟨.slice A1 y2.length cap1, rfl, ?_⟩
 refine wP 2 [(30, ii 0), (29, ii (y2.length : Int))] <| wN <| cP [(3, .map (some b2)), (28, .slice A1 y2.length cap1), (29, ii (y2.length : Int)), (30, ii 0)] (fun a1 => ?_)
 obtain ⟨r1, hr1, hm⟩ := bindE hm
 have hm1 := hm
 refine cW_cut (fun a' w' => ∃ l3 : List (Int × Int), Sum.inl l3 = r1 ∧ Fr 55 [(3, .map (some b2))] a' ∧ Mp okI kI kI w' b2 l3 ∧ Chg [] w0 w') ?_ ?_
 ·refine cW_block ?_
  refine cW_loop _ (fun (s1 : Int × (List (Int × Int))) a' w' => ∃ x1 : Int, ∃ l4 : List (Int × Int), (x1, l4) = s1 ∧ Fr 55 [(3, .map (some b2)), (28, .slice A1 y2.length cap1), (29, ii (y2.length : Int)), (30, ii x1)] a' ∧ Mp okI kI kI w' b2 l4 ∧ O1 2 w' fp1 A1 cap1 y2 ∧ Chg [] w0 w') hr1 (fun hst => ⟨0, ([] : List (Int × Int)), rfl, fO hst, F2, F5, hB⟩) ?_
  rintro _ c3 a' w6 ⟨x1, l4, rfl, hF1, F6, F7, hB⟩ hx1
  refine gO hF1 ?_
  have hm := hx1
  unfold m_iValid_s1 at hm
  refine sR <| wP 1 [(31, .bool (decide (x1 < ((y2.length : Int)))))] <| wN <| cW_seq <| cC (decide (x1 < ((y2.length : Int)))) (fun hb3 => ?_) (fun hb3 => ?_)
  ·have hm := condT hb3 hm
   refine cW_skip <| eX_then <| cW_seq <| cW_block <| sR ?_
   obtain ⟨x2, hx2, hm⟩ := bindE hm
   refine sI 32 A1 y2.length cap1 .i64 x1 sl24 ((F7.sl encI_ok).is hx2) <| sL 33 (elA A1 1 (x1) 0) (ii x2) vt2 (Sl.cell (F7.sl encI_ok) hx2 0 (by rfl)) <| wP 1 [(5, ii x2)] <| wN <| cW_seq <| sR <| wP 1 [(34, ii x2)] ?_
   obtain ⟨y3, hy3, hm⟩ := bindE hm
   refine sC 35 [ii x2, ii 0, ii 12] ent75 (c_impl_in hy3) ?_
   rintro _ w7 ⟨rfl, hc6⟩
   replace F6 := F6.c hc6
   replace F7 := F7.c hc6
   replace hB := hB.q hc6
   refine ⟨.bool (y3), rfl, ?_⟩
   refine wP 1 [(36, .bool (!y3))] <| wN <| cC (!y3) (fun hb4 => ?_) (fun hb4 => ?_)
   ·have hm := condT hb4 hm
    refine sR <| wP 1 [(2, .bool (false))] <| wN <| cW_ret <| eX_then_ret <| eX_block_ret <| eX_then_ret ?_
    obtain rfl := someE (x := Ctl.out (Sum.inr false)) hm
    refine eX_outR hx1 (fun hr => ?_)
    subst hr
    refine eX_block_ret <| eX_then_ret <| eX_then_ret ?_
    obtain rfl := someE (x := false) hm1
    refine rA (.bool (false)) 2 ?_
    exact ⟨rfl, hB⟩
   have hm := condF hb4 hm
   refine cW_skip <| eX_then <| cW_region <| wP 2 [(38, ii x2), (37, .map (some b2))] ?_
   obtain ⟨y4, hy4, hm⟩ := bindE hm
   refine wS_look (k := x2) (d := 39) (T := 102) (by kernel_rfl) mk102 mp102 F6 hy4 <| wP 1 [(40, ii (wr (y4 + 1)))] ?_
   obtain ⟨_, hk1, hm⟩ := bindE hm
   refine wS_mup (k := x2) (x := wr (y4 + 1)) (T := 102) (by kernel_rfl) rfl rfl mk102 mp102 F6 (mpE hk1) ?_
   intro w8 F8 hc7
   replace F7 := F7.chg hc7 (D7).symm
   replace hB := hB.inS hc7 (inLow G2)
   clear F6
   refine wE <| eX_block <| eX_then <| cW_region <| wP 2 [(30, ii (wr (x1 + 1))), (41, ii (wr (x1 + 1)))] <| wE ?_
   obtain rfl := someE (x := (Ctl.next ((wr (x1 + 1), mup l4 x2 (wr (y4 + 1)))))) hm
   exact eX_next hx1 (fun hst => ⟨wr (x1 + 1), mup l4 x2 (wr (y4 + 1)), rfl, fO hst, F8, F7, hB⟩)
  have hm := condF hb3 hm
  refine cW_exit <| eX_then_exit ?_
  obtain rfl := someE (x := Ctl.out (Sum.inl l4)) hm
  refine eX_outX hx1 (fun hr2 => ?_)
  replace hr2 := hr2.symm
  subst hr2
  refine eX_block_hit ?_
  exact eX_J (fun hst => ⟨l4, rfl, fO hst, F6, hB⟩)
 rintro a' w9 ⟨l3, hJ, hF2, F9, hB⟩
 subst hJ
 refine gX hF2 <| eX_then <| cW_seq <| sR <| wP 1 [(42, .map (some b2))] <| wS_range (d := 43) (T := 102) (by kernel_rfl) mp102 F9 ?_
 intro b4 w10 G5 F10 hc8
 have D9 := Dj.of F9.low (low1 G5)
 replace F9 := F9.c hc8
 replace G5 := Nat.le_trans hB.size G5
 replace G5 := low1 G5
 replace hB := hB.q hc8
 refine wN ?_
 have hA1 := allO_some hm
 refine cW_cut (fun a' w' => ∃ lo1 : List (Int × Int), lo1.Perm l3 ∧ foldE (m_iValid_s2) (()) lo1 = some (Sum.inl (())) ∧ Fr 55 [] a' ∧ Chg [] w0 w') ?_ ?_
 ·refine cW_block ?_
  refine cW_loopA (fun (n1 : Nat) a' w' => ∃ ld1 : List (Int × Int), ∃ lr1 : List (Int × Int), lr1.length = n1 ∧ (ld1 ++ lr1).Perm l3 ∧ foldE (m_iValid_s2) (()) ld1 = some (Sum.inl (())) ∧ Fr 55 [(43, pt b4)] a' ∧ Mp okI kI kI w' b2 l3 ∧ RgE okI kI kI w' b2 b4 l3 lr1 ∧ Chg [] w0 w') (fun hst => ⟨[], l3, rfl, (List.Perm.refl _), rfl, fO hst, F9, F10, hB⟩) ?_
  rintro n1 a' w11 ⟨ld1, lr1, hn1, hP1, hF3, hF4, F11, F12, hB⟩
  refine gO hF4 <| sR <| wS_next (d := 44) (by kernel_rfl) F12 (fun hnil1 => ?_) (fun pa1 p1 pd1 w12 hsp1 F13 hc9 => ?_)
  ·skip
   refine wP 1 [(45, .bool (false))] <| wN <| cW_seq <| cCf <| cW_exit <| eX_then_exit <| eX_outXA <| eX_block_hit ?_
   exact eX_J (fun hst => ⟨ld1, (perm_end hP1 hnil1), hF3, fO hst, hB⟩)
  skip
  obtain ⟨s2, hs1, hk2⟩ := foldE_step hF3 (hA1 _ (perm_pick hP1 hsp1))
  have hm := hs1
  unfold m_iValid_s2 at hm
  replace F11 := F11.chg hc9 D9
  replace hB := hB.inS hc9 (inLow G5)
  clear F12
  refine wP 1 [(45, .bool (true))] <| wN <| cW_seq <| cCt <| cW_skip <| eX_then <| cW_block <| sR <| wS_ntry (d := 46) (by kernel_rfl) F13 <| wP 4 [(7, ii p1.2), (6, ii p1.1), (48, ii p1.2), (47, ii p1.1)] <| wN <| sR <| wP 3 [(51, .bool (decide (p1.1 > 0))), (50, .bool (decide (p1.1 > 0))), (49, ii p1.1)] <| wS_bool (decide (p1.1 > 0)) (fun hb5 => ?_) (fun hb5 => ?_)
  ·have hm := condT hb5 hm
   rewrite [hb5]
   refine wP 3 [(54, .bool (decide (p1.2 < 2))), (53, .bool (decide (p1.2 < 2))), (52, ii p1.2)] <| wN <| cC (decide (p1.2 < 2)) (fun hb6 => ?_) (fun hb6 => ?_)
   ·have hm := condT hb6 hm
    refine sR <| wP 1 [(2, .bool (false))] <| wN <| cW_ret <| eX_block_ret ?_
    obtain rfl := someE (x := Ctl.out (Sum.inr false)) hm
    refine eX_outRA ?_
    have hk3 := hk2 _ rfl
    refine eX_block_ret <| eX_then_ret <| eX_then_ret ?_
    obtain rfl := someE (x := false) hk3
    refine rA (.bool (false)) 2 ?_
    exact ⟨rfl, hB⟩
   have hm := condF hb6 hm
   refine cW_skip <| eX_block ?_
   obtain rfl := someE (x := Ctl.next (())) hm
   exact eX_nextA (cdn_lt hn1 hsp1) (fun hst => ⟨ld1 ++ [p1], pa1 ++ pd1, rfl, (perm_next hP1 hsp1), (foldE_snoc hF3 hs1), fO hst, F11, ⟨_, F13⟩, hB⟩)
  have hm := condF hb5 hm
  rewrite [hb5]
  refine wP 3 [(54, .bool (false)), (53, undef), (52, undef)] <| wN <| cCf <| cW_skip <| eX_block ?_
  obtain rfl := someE (x := Ctl.next (())) hm
  exact eX_nextA (cdn_lt hn1 hsp1) (fun hst => ⟨ld1 ++ [p1], pa1 ++ pd1, rfl, (perm_next hP1 hsp1), (foldE_snoc hF3 hs1), fO hst, F11, ⟨_, F13⟩, hB⟩)
 rintro a' w13 ⟨lo1, hP2, hF5, hF6, hB⟩
 have hm := hA1 _ hP2
 rewrite [hF5] at hm
 refine gX hF6 ?_
 have hm := bindSome hm
 refine eX_then <| sR <| wP 1 [(2, .bool (true))] <| wN <| cW_ret ?_
 obtain rfl := someE (x := true) hm
 refine rA (.bool (true)) 2 ?_
 exact ⟨rfl, hB⟩

set_option maxRecDepth 100000 in
theorem c_sIndex {w0 l0 A0 cap0 fp0 p1} {r : (Int)} (hm : m_sIndex l0 p1 = some r) (F0 : S1 w0 fp0 A0 l0) :
  Calls Tryd.prog 93 #[.slice A0 l0.length cap0, ii p1] w0 fun e w' => e = .returned (ii r) ∧ Chg [] w0 w' := by
 have L0 := F0.low
 have hB : Chg [] w0 w0 := Chg.refl _ _
 unfold m_sIndex at hm
 refine enterE (N := 19) Tryd.func93 (by rfl) Tryd.ntmps93 (by simp) [(0, .slice A0 l0.length cap0), (1, ii p1)] (by rfl) (by kernel_rfl) (fun a => ?_)
 refine sR <| wP 1 [(4, ii 0)] <| wN <| cW_seq <| sR <| wP 3 [(8, ii 0), (7, ii (l0.length : Int)), (6, .slice A0 l0.length cap0)] <| wN ?_
 obtain ⟨r1, hr1, hm⟩ := bindE hm
 have hm1 := hm
 refine cW_cut (fun a' w' => Sum.inl (()) = r1 ∧ Fr 19 [] a' ∧ Chg [] w0 w') ?_ ?_
 ·refine cW_block ?_
  refine cW_loop _ (fun (s1 : Int) a' w' => ∃ x1 : Int, x1 = s1 ∧ Fr 19 [(0, .slice A0 l0.length cap0), (1, ii p1), (7, ii (l0.length : Int)), (8, ii x1)] a' ∧ S1 w' fp0 A0 l0 ∧ Chg [] w0 w') hr1 (fun hst => ⟨0, rfl, fO hst, F0, hB⟩) ?_
  rintro _ c1 a' w1 ⟨x1, rfl, hF1, F1, hB⟩ hx1
  refine gO hF1 ?_
  have hm := hx1
  unfold m_sIndex_s1 at hm
  refine sR <| wP 1 [(9, .bool (decide (x1 < ((l0.length : Int)))))] <| wN <| cW_seq <| cC (decide (x1 < ((l0.length : Int)))) (fun hb1 => ?_) (fun hb1 => ?_)
  ·have hm := condT hb1 hm
   refine cW_skip <| eX_then <| cW_seq <| cW_block <| sR <| wP 2 [(5, ii x1), (10, ii x1)] <| wN <| sR <| wP 3 [(13, ii x1), (12, .slice A0 l0.length cap0), (11, ii p1)] ?_
   obtain ⟨x2, hx2, hm⟩ := bindE hm
   refine sI 14 A0 l0.length cap0 .i64 x1 sl24 (F1.is hx2) <| sL 15 (elA A0 1 (x1) 0) (ii x2) vt2 (Sl.cell F1 hx2 0 (by rfl)) <| wP 1 [(16, .bool (p1 == x2))] <| wN <| cC (p1 == x2) (fun hb2 => ?_) (fun hb2 => ?_)
   ·have hm := condT hb2 hm
    refine sR <| wP 2 [(4, ii x1), (17, ii x1)] <| wN <| cW_ret <| eX_block_ret <| eX_then_ret ?_
    obtain rfl := someE (x := Ctl.out (Sum.inr x1)) hm
    refine eX_outR hx1 (fun hr => ?_)
    subst hr
    refine eX_block_ret <| eX_then_ret <| eX_then_ret ?_
    obtain rfl := someE (x := x1) hm1
    refine rA (ii x1) 4 ?_
    exact ⟨rfl, hB⟩
   have hm := condF hb2 hm
   refine cW_skip <| eX_block <| eX_then <| cW_region <| wP 2 [(8, ii (wr (x1 + 1))), (18, ii (wr (x1 + 1)))] <| wE ?_
   obtain rfl := someE (x := Ctl.next (wr (x1 + 1))) hm
   exact eX_next hx1 (fun hst => ⟨wr (x1 + 1), rfl, fO hst, F1, hB⟩)
  have hm := condF hb1 hm
  refine cW_exit <| eX_then_exit ?_
  obtain rfl := someE (x := Ctl.out (Sum.inl (()))) hm
  refine eX_outX hx1 (fun hr2 => ?_)
  replace hr2 := hr2.symm
  subst hr2
  refine eX_block_hit ?_
  exact eX_J (fun hst => ⟨rfl, fO hst, hB⟩)
 rintro a' w2 ⟨hJ, hF2, hB⟩
 subst hJ
 refine gX hF2 <| eX_then <| sR <| wP 1 [(4, ii ((-1)))] <| wN <| cW_ret ?_
 obtain rfl := someE (x := (-1)) hm
 refine rA (ii ((-1))) 4 ?_
 exact ⟨rfl, hB⟩

set_option maxRecDepth 100000 in
theorem c_sConta {w0 l0 A0 cap0 fp0 p1} {r : Bool} (hm : m_sConta l0 p1 = some r) (F0 : S1 w0 fp0 A0 l0) :
  Calls Tryd.prog 86 #[.slice A0 l0.length cap0, ii p1] w0 fun e w' => e = .returned (.bool (r)) ∧ Chg [] w0 w' := by
 have L0 := F0.low
 have hB : Chg [] w0 w0 := Chg.refl _ _
 unfold m_sConta at hm
 refine enterE (N := 9) Tryd.func86 (by rfl) Tryd.ntmps86 (by simp) [(0, .slice A0 l0.length cap0), (1, ii p1)] (by rfl) (by kernel_rfl) (fun a => ?_)
 refine sR <| wP 1 [(4, .bool (false))] <| wN <| sR <| wP 2 [(6, ii p1), (5, .slice A0 l0.length cap0)] ?_
 obtain ⟨y1, hy1, hm⟩ := bindE hm
 refine sC 7 [.slice A0 l0.length cap0, ii p1] ent93 (c_sIndex hy1 F0) ?_
 rintro _ w1 ⟨rfl, hc1⟩
 replace F0 := F0.c hc1
 replace hB := hB.q hc1
 refine ⟨ii y1, rfl, ?_⟩
 refine wP 2 [(4, .bool (decide (y1 ≥ 0))), (8, .bool (decide (y1 ≥ 0)))] <| wN <| cW_ret ?_
 obtain rfl := someE (x := decide (y1 ≥ 0)) hm
 refine rA (.bool (decide (y1 ≥ 0))) 4 ?_
 exact ⟨rfl, hB⟩

set_option maxRecDepth 100000 in
theorem c_iNewOr {w0 p0} {r : ((List Int) × (List Int))} (hm : m_iNewOr p0 = some r)  :
  Calls Tryd.prog 77 #[ii p0] w0 fun e w' => ∃ A100_0 cap100_0 fp100_0, ∃ A100_1 cap100_1 fp100_1, e = .returned (.agg #[.slice A100_0 r.1.length cap100_0, .slice A100_1 r.2.length cap100_1]) ∧ O1 3 w' fp100_0 A100_0 cap100_0 r.1 ∧ (∀ x ∈ fp100_0, w0.heap.size ≤ x) ∧ O1 3 w' fp100_1 A100_1 cap100_1 r.2 ∧ (∀ x ∈ fp100_1, w0.heap.size ≤ x) ∧ Dj fp100_0 fp100_1 ∧ Chg [] w0 w' := by
 have hB : Chg [] w0 w0 := Chg.refl _ _
 unfold m_iNewOr at hm
 refine enterE (N := 8) Tryd.func77 (by rfl) Tryd.ntmps77 (by simp) [(0, ii p0)] (by rfl) (by kernel_rfl) (fun a => ?_)
 refine sR <| wS_alloc (d := 2) (T := 58) (z := .agg #[.slice none 0 0, .slice none 0 0]) (by kernel_rfl) (by kernel_rfl) ?_
 intro b1 w1 G1 F1 hc1
 replace F1 : Cl w1 b1 58 [.slice none 0 0, .slice none 0 0] := F1
 replace G1 := Nat.le_trans hB.size G1
 replace hB := hB.q hc1
 refine wN <| cW_seq ?_
 obtain ⟨s1, hs1, hm⟩ := bindE hm
 refine cW_cut (fun a' w' => ∃ l1 : List Int, ∃ A1 : Option Addr, ∃ cap1 : Nat, ∃ fp1 : List Nat, ∃ l2 : List Int, ∃ A2 : Option Addr, ∃ cap2 : Nat, ∃ fp2 : List Nat, (l1, l2) = s1 ∧ Fr 8 [(2, pt b1)] a' ∧ Cl w' b1 58 [.slice A1 l1.length cap1, .slice A2 l2.length cap2] ∧ O1 3 w' fp1 A1 cap1 l1 ∧ O1 3 w' fp2 A2 cap2 l2 ∧ (∀ x ∈ fp1, w0.heap.size ≤ x) ∧ (∀ x ∈ fp2, w0.heap.size ≤ x) ∧ Dj [b1] fp1 ∧ Dj fp2 fp1 ∧ Dj [b1] fp2 ∧ Chg [] w0 w') ?_ ?_
 ·have hm := hs1
  refine cW_drawnTail [] 4 (by kernel_rfl) (by kernel_rfl) (fun w2 hc2 => ?_)
  replace F1 := F1.c hc2
  replace hB := hB.q hc2
  have hS := Chg.refl [] w2
  have Z1 := F1
  refine hT [0, 2] [(5, ii p0), (3, ii p0)] ?_
  refine wH_all [1, 3] (by rfl) (by kernel_rfl) (by simp) ⟨⟨by kernel_rfl, ?_⟩, ⟨by kernel_rfl, ?_⟩, trivial⟩
  ·skip
   obtain ⟨_, hk1, hm⟩ := bindE hm
   replace hk1 := mkE hk1
   refine wS_make (enc := encI) (x0 := (0 : Int)) (d := 4) (t := 56) (T := 3) (k1 := .i64) (k2 := .i64) (m := p0) (by kernel_rfl) el56 encI_ok (by rfl) hk1.1 hk1.2 ?_
   intro b2 w3 G2 F2 hc3
   have D1 := Dj.of (lt1 F1.lt) (low1 G2)
   replace F1 := F1.c hc3
   have hSz := hS
   replace hS := hS.inS hc3 inNil
   have Gz1 := low1 (Nat.le_trans hSz.size G2)
   replace G2 := Nat.le_trans hB.size G2
   replace G2 := low1 G2
   replace hB := hB.q hc3
   refine wS_end (by kernel_rfl) <| eX_KH hS ?_
   refine wH_all [3] (by rfl) (by kernel_rfl) (by simp) ⟨⟨by kernel_rfl, ?_⟩, trivial⟩
   obtain ⟨_, hk2, hm⟩ := bindE hm
   replace hk2 := mkE hk2
   refine wS_make (enc := encI) (x0 := (0 : Int)) (d := 6) (t := 56) (T := 3) (k1 := .i64) (k2 := .i64) (m := p0) (by kernel_rfl) el56 encI_ok (by rfl) hk2.1 hk2.2 ?_
   intro b3 w4 G3 F3 hc4
   have D2 := Dj.of (lt1 F1.lt) (low1 G3)
   have D3 := Dj.of F2.low (low1 G3)
   replace F1 := F1.c hc4
   replace F2 := F2.c hc4
   have hSz := hS
   replace hS := hS.inS hc4 inNil
   have Gz2 := low1 (Nat.le_trans hSz.size G3)
   replace G3 := Nat.le_trans hB.size G3
   replace G3 := low1 G3
   replace hB := hB.q hc4
   refine wS_end (by kernel_rfl) <| eX_KH hS <| wD <| eX_tail <| wP 1 [(7, .agg #[.slice (ad b2) (List.replicate (Int.toNat p0) ((0 : Int))).length (Int.toNat p0), .slice (ad b3) (List.replicate (Int.toNat p0) ((0 : Int))).length (Int.toNat p0)])] <| wS_store (T := 58) (g := b1) (o := 0) (ad := ⟨b1, 0, none⟩) (v := .agg #[.slice (ad b2) (List.replicate (Int.toNat p0) ((0 : Int))).length (Int.toNat p0), .slice (ad b3) (List.replicate (Int.toNat p0) ((0 : Int))).length (Int.toNat p0)]) (vs := [.slice (ad b2) (List.replicate (Int.toNat p0) ((0 : Int))).length (Int.toNat p0), .slice (ad b3) (List.replicate (Int.toNat p0) ((0 : Int))).length (Int.toNat p0)]) (by kernel_rfl) (by rfl) sz58 (by rfl) (by rfl) F1 (bl rfl) ?_
   intro w5 F4 hc5
   replace F2 := F2.chg hc5 (D1).symm
   replace F3 := F3.chg hc5 (D2).symm
   replace hB := hB.inS hc5 (inLow (low1 G1))
   replace F4 : Cl w5 b1 58 [.slice (ad b2) (List.replicate (Int.toNat p0) ((0 : Int))).length (Int.toNat p0), .slice (ad b3) (List.replicate (Int.toNat p0) ((0 : Int))).length (Int.toNat p0)] := F4
   clear F1
   refine wE ?_
   obtain rfl := someE (x := ((List.replicate (Int.toNat p0) ((0 : Int)), List.replicate (Int.toNat p0) ((0 : Int))))) hm
   exact eX_J (fun hst => ⟨List.replicate (Int.toNat p0) ((0 : Int)), (ad b2), (Int.toNat p0), [b2], List.replicate (Int.toNat p0) ((0 : Int)), (ad b3), (Int.toNat p0), [b3], rfl, fO hst, F4, F2, F3, G2, G3, D1, (D3).symm, D2, hB⟩)
  skip
  obtain ⟨_, hk3, hm⟩ := bindE hm
  replace hk3 := mkE hk3
  refine wS_make (enc := encI) (x0 := (0 : Int)) (d := 6) (t := 56) (T := 3) (k1 := .i64) (k2 := .i64) (m := p0) (by kernel_rfl) el56 encI_ok (by rfl) hk3.1 hk3.2 ?_
  intro b4 w6 G4 F5 hc6
  have D4 := Dj.of (lt1 F1.lt) (low1 G4)
  replace F1 := F1.c hc6
  have hSz := hS
  replace hS := hS.inS hc6 inNil
  have Gz3 := low1 (Nat.le_trans hSz.size G4)
  replace G4 := Nat.le_trans hB.size G4
  replace G4 := low1 G4
  replace hB := hB.q hc6
  refine wS_end (by kernel_rfl) <| eX_KH hS ?_
  refine wH_all [1] (by rfl) (by kernel_rfl) (by simp) ⟨⟨by kernel_rfl, ?_⟩, trivial⟩
  obtain ⟨_, hk4, hm⟩ := bindE hm
  replace hk4 := mkE hk4
  refine wS_make (enc := encI) (x0 := (0 : Int)) (d := 4) (t := 56) (T := 3) (k1 := .i64) (k2 := .i64) (m := p0) (by kernel_rfl) el56 encI_ok (by rfl) hk4.1 hk4.2 ?_
  intro b5 w7 G5 F6 hc7
  have D5 := Dj.of (lt1 F1.lt) (low1 G5)
  have D6 := Dj.of F5.low (low1 G5)
  replace F1 := F1.c hc7
  replace F5 := F5.c hc7
  have hSz := hS
  replace hS := hS.inS hc7 inNil
  have Gz4 := low1 (Nat.le_trans hSz.size G5)
  replace G5 := Nat.le_trans hB.size G5
  replace G5 := low1 G5
  replace hB := hB.q hc7
  refine wS_end (by kernel_rfl) <| eX_KH hS <| wD <| eX_tail <| wP 1 [(7, .agg #[.slice (ad b5) (List.replicate (Int.toNat p0) ((0 : Int))).length (Int.toNat p0), .slice (ad b4) (List.replicate (Int.toNat p0) ((0 : Int))).length (Int.toNat p0)])] <| wS_store (T := 58) (g := b1) (o := 0) (ad := ⟨b1, 0, none⟩) (v := .agg #[.slice (ad b5) (List.replicate (Int.toNat p0) ((0 : Int))).length (Int.toNat p0), .slice (ad b4) (List.replicate (Int.toNat p0) ((0 : Int))).length (Int.toNat p0)]) (vs := [.slice (ad b5) (List.replicate (Int.toNat p0) ((0 : Int))).length (Int.toNat p0), .slice (ad b4) (List.replicate (Int.toNat p0) ((0 : Int))).length (Int.toNat p0)]) (by kernel_rfl) (by rfl) sz58 (by rfl) (by rfl) F1 (bl rfl) ?_
  intro w8 F7 hc8
  replace F5 := F5.chg hc8 (D4).symm
  replace F6 := F6.chg hc8 (D5).symm
  replace hB := hB.inS hc8 (inLow (low1 G1))
  replace F7 : Cl w8 b1 58 [.slice (ad b5) (List.replicate (Int.toNat p0) ((0 : Int))).length (Int.toNat p0), .slice (ad b4) (List.replicate (Int.toNat p0) ((0 : Int))).length (Int.toNat p0)] := F7
  clear F1
  refine wE ?_
  obtain rfl := someE (x := ((List.replicate (Int.toNat p0) ((0 : Int)), List.replicate (Int.toNat p0) ((0 : Int))))) hm
  exact eX_J (fun hst => ⟨List.replicate (Int.toNat p0) ((0 : Int)), (ad b5), (Int.toNat p0), [b5], List.replicate (Int.toNat p0) ((0 : Int)), (ad b4), (Int.toNat p0), [b4], rfl, fO hst, F7, F6, F5, G5, G4, D5, D6, D4, hB⟩)
 rintro a' w9 ⟨l1, A1, cap1, fp1, l2, A2, cap2, fp2, hJ, hF1, F8, F9, F10, G6, G7, D7, D8, D9, hB⟩
 subst hJ
 refine gX hF1 <| eX_then <| cW_ret ?_
 obtain rfl := someE (x := ((l1, l2))) hm
 refine eX_ret (vs := [.agg #[.slice A1 l1.length cap1, .slice A2 l2.length cap2]]) [.cell 2 58] (by rfl) ⟨⟨⟨b1, 0, none⟩, by kernel_rfl, run_loadVarA (vs := [.slice A1 l1.length cap1, .slice A2 l2.length cap2]) vt58 (fun i u hu => by exact box_cells F8 0 hu (by rfl))⟩, trivial⟩ ?_
 exact ⟨A1, cap1, fp1, A2, cap2, fp2, rfl, F9, G6, F10, G7, (D8).symm, hB⟩

set_option maxRecDepth 100000 in
theorem c_iOrderFewes1 {R_impl_order_fewest : (List Int) → (List Int) → (Int) → (List (Int × Int)) → Option ((Int) × (List (Int × Int)))} (hR_impl_order_fewest : ∀ {w0 : World} {l0_0 : List Int} {A0_0 : Option Addr} {cap0_0 : Nat} {fp0_0 : List Nat} {l0_1 : List Int} {A0_1 : Option Addr} {cap0_1 : Nat} {fp0_1 : List Nat} {p1 : Int} {l2 : List (Int × Int)} {b2 : Nat} {r : (Int) × (List (Int × Int))} (hm : R_impl_order_fewest l0_0 l0_1 p1 l2 = some r) (F0_0 : S1 w0 fp0_0 A0_0 l0_0) (F0_1 : S1 w0 fp0_1 A0_1 l0_1) (F2 : Mp okI kI kI w0 b2 l2) (J2__0_0 : Dj [b2] fp0_0) (J2__0_1 : Dj [b2] fp0_1), Calls Tryd.prog 78 #[.agg #[.slice A0_0 l0_0.length cap0_0, .slice A0_1 l0_1.length cap0_1], ii p1, .map (some b2)] w0 fun e w' => e = .returned (ii r.1) ∧ Mp okI kI kI w' b2 r.2 ∧ Chg ([b2] ++ []) w0 w') {w0 : World} {p0 : Int} {q1_0 : Int} {b1 : Nat} {l2_0 : List Int} {A2_0 : Option Addr} {cap2_0 : Nat} {fp2_0 : List Nat} {l2_1 : List Int} {A2_1 : Option Addr} {cap2_1 : Nat} {fp2_1 : List Nat} {b2 : Nat} {q3_0 : Int} {b3 : Nat} {l4_0 : List (Int × Int)} {b4_0 : Nat} {b4 : Nat} {r : (Int) × (List (Int × Int))} (hm : m_iOrderFewes1  R_impl_order_fewest p0 q1_0 l2_0 l2_1 q3_0 l4_0 = some r) (F1 : Cl w0 b1 3 [ii q1_0]) (F2_0 : S1 w0 fp2_0 A2_0 l2_0) (F2_1 : S1 w0 fp2_1 A2_1 l2_1) (F2 : Cl w0 b2 58 [.slice A2_0 l2_0.length cap2_0, .slice A2_1 l2_1.length cap2_1]) (F3 : Cl w0 b3 3 [ii q3_0]) (F4_0 : Mp okI kI kI w0 b4_0 l4_0) (F4 : Cl w0 b4 105 [.map (some b4_0)]) (J1__2_0 : Dj [b1] fp2_0) (J1__2_1 : Dj [b1] fp2_1) (J1__2 : Dj [b1] [b2]) (J1__3 : Dj [b1] [b3]) (J1__4_0 : Dj [b1] [b4_0]) (J1__4 : Dj [b1] [b4]) (J4_0__2_0 : Dj [b4_0] fp2_0) (J4_0__2_1 : Dj [b4_0] fp2_1) (J4_0__2 : Dj [b4_0] [b2]) (J4_0__3 : Dj [b4_0] [b3]) (J4_0__4 : Dj [b4_0] [b4]) :
  Calls Tryd.prog 102 #[ii p0, pt b1, pt b2, pt b3, pt b4] w0 fun e w' => e = .returned (.tuple #[]) ∧ Cl w' b1 3 [ii r.1] ∧ Mp okI kI kI w' b4_0 r.2 ∧ Chg ([b1] ++ ([b4_0] ++ [])) w0 w' := by
 have L1 := lt1 F1.lt
 have L2_0 := F2_0.low
 have L2_1 := F2_1.low
 have L2 := lt1 F2.lt
 have L3 := lt1 F3.lt
 have L4_0 := F4_0.low
 have L4 := lt1 F4.lt
 have hB : Chg ([b1] ++ ([b4_0] ++ [])) w0 w0 := Chg.refl _ _
 unfold m_iOrderFewes1 at hm
 refine enterE (N := 15) Tryd.func102 (by rfl) Tryd.ntmps102 (by simp) [(0, ii p0), (1, pt b1), (2, pt b2), (3, pt b3), (4, pt b4)] (by rfl) (by kernel_rfl) (fun a => ?_)
 refine cW_drawnTail [b4_0] 8 (by kernel_rfl) (by kernel_rfl) (fun w1 hc1 => ?_)
 replace F1 := F1.c hc1
 replace F2_0 := F2_0.c hc1
 replace F2_1 := F2_1.c hc1
 replace F2 := F2.c hc1
 replace F3 := F3.c hc1
 replace F4_0 := F4_0.c hc1
 replace F4 := F4.c hc1
 replace hB := hB.q hc1
 have hS := Chg.refl [b4_0] w1
 have Z1 := F1
 have Z2 := F2_0
 have Z3 := F2_1
 have Z4 := F2
 have Z5 := F3
 have Z6 := F4_0
 have Z7 := F4
 refine hL 0 6 ⟨b1, 0, none⟩ (ii q1_0) vt3 (fun W hW => (Z1.chg hW (dj1 J1__4_0)).cell 0) ?_
 refine wH_loadA (i := 1) (d := 7) (T := 58) (ad := ⟨b2, 0, none⟩) (vs := [.slice A2_0 l2_0.length cap2_0, .slice A2_1 l2_1.length cap2_1]) (by kernel_rfl) (qT qZ) (by kernel_rfl) (by kernel_rfl) vt58 (fun W hW i u hu => box_cells (Z4.chg hW (dj1 (J4_0__2).symm)) 0 hu (by rfl)) ?_
 refine hL 2 8 ⟨b3, 0, none⟩ (ii q3_0) vt3 (fun W hW => (Z5.chg hW (dj1 (J4_0__3).symm)).cell 0) ?_
 refine hT [3, 4] [(10, ii (andNI q3_0 p0)), (9, ii p0)] <| hL 5 11 ⟨b4, 0, none⟩ (.map (some b4_0)) vt105 (fun W hW => (Z7.chg hW (dj1 (J4_0__4).symm)).cell 0) ?_
 refine wH_all [6] (by rfl) (by kernel_rfl) (by simp) ⟨⟨by kernel_rfl, ?_⟩, trivial⟩
 obtain ⟨y1, hy1, hm⟩ := bindE hm
 refine sC 12 [.agg #[.slice A2_0 l2_0.length cap2_0, .slice A2_1 l2_1.length cap2_1], ii (andNI q3_0 p0), .map (some b4_0)] ent78 (hR_impl_order_fewest hy1 F2_0 F2_1 F4_0 J4_0__2_0 J4_0__2_1) ?_
 rintro _ w2 ⟨rfl, F5, hc2⟩
 replace F1 := F1.chg hc2 (dj1 (Dj.app J1__4_0 Dj.nil))
 replace F2_0 := F2_0.chg hc2 (Dj.app (J4_0__2_0).symm Dj.nil)
 replace F2_1 := F2_1.chg hc2 (Dj.app (J4_0__2_1).symm Dj.nil)
 replace F2 := F2.chg hc2 (dj1 (Dj.app (J4_0__2).symm Dj.nil))
 replace F3 := F3.chg hc2 (dj1 (Dj.app (J4_0__3).symm Dj.nil))
 replace F4 := F4.chg hc2 (dj1 (Dj.app (J4_0__4).symm Dj.nil))
 have hSz := hS
 replace hS := hS.trans (hc2.more (fun x hx => by simpa using hx))
 replace hB := hB.inS hc2 (inApp (inMem (fun x hx => (List.mem_append_right _ (List.mem_append_left _ hx)))) inNil)
 clear F4_0
 refine ⟨ii y1.1, rfl, ?_⟩
 refine wS_end (by kernel_rfl) <| eX_KH hS <| hT [7] [(13, ii (wr (y1.1 + 1)))] <| wD <| eX_tail <| wP 1 [(14, ii (if (wr (y1.1 + 1)) < q1_0 then (wr (y1.1 + 1)) else q1_0))] <| wS_store (T := 3) (g := b1) (o := 0) (ad := ⟨b1, 0, none⟩) (v := ii (if (wr (y1.1 + 1)) < q1_0 then (wr (y1.1 + 1)) else q1_0)) (vs := [ii (if (wr (y1.1 + 1)) < q1_0 then (wr (y1.1 + 1)) else q1_0)]) (by kernel_rfl) (by rfl) sz3 (by rfl) (by rfl) F1 (bl rfl) ?_
 intro w3 F6 hc3
 replace F2_0 := F2_0.chg hc3 (J1__2_0).symm
 replace F2_1 := F2_1.chg hc3 (J1__2_1).symm
 replace F2 := F2.chg hc3 (dj1 (J1__2).symm)
 replace F3 := F3.chg hc3 (dj1 (J1__3).symm)
 replace F5 := F5.chg hc3 (J1__4_0).symm
 replace F4 := F4.chg hc3 (dj1 (J1__4).symm)
 replace hB := hB.inS hc3 (inMem (fun x hx => (List.mem_append_left _ hx)))
 replace F6 : Cl w3 b1 3 [ii (if (wr (y1.1 + 1)) < q1_0 then (wr (y1.1 + 1)) else q1_0)] := F6
 clear F1
 refine wE ?_
 obtain rfl := someE (x := ((if (wr (y1.1 + 1)) < q1_0 then (wr (y1.1 + 1)) else q1_0, y1.2))) hm
 refine eX_fall (vs := []) [] (by rfl) trivial ?_
 exact ⟨rfl, F6, F5, hB⟩

set_option maxRecDepth 100000 in
theorem c_iOrderFirst1_f_b {R_impl_order_fewest : (List Int) → (List Int) → (Int) → (List (Int × Int)) → Option ((Int) × (List (Int × Int)))} (hR_impl_order_fewest : ∀ {w0 : World} {l0_0 : List Int} {A0_0 : Option Addr} {cap0_0 : Nat} {fp0_0 : List Nat} {l0_1 : List Int} {A0_1 : Option Addr} {cap0_1 : Nat} {fp0_1 : List Nat} {p1 : Int} {l2 : List (Int × Int)} {b2 : Nat} {r : (Int) × (List (Int × Int))} (hm : R_impl_order_fewest l0_0 l0_1 p1 l2 = some r) (F0_0 : S1 w0 fp0_0 A0_0 l0_0) (F0_1 : S1 w0 fp0_1 A0_1 l0_1) (F2 : Mp okI kI kI w0 b2 l2) (J2__0_0 : Dj [b2] fp0_0) (J2__0_1 : Dj [b2] fp0_1), Calls Tryd.prog 78 #[.agg #[.slice A0_0 l0_0.length cap0_0, .slice A0_1 l0_1.length cap0_1], ii p1, .map (some b2)] w0 fun e w' => e = .returned (ii r.1) ∧ Mp okI kI kI w' b2 r.2 ∧ Chg ([b2] ++ []) w0 w') {R : (Int) → (Int) → (Int) → (List Int) → (List Int) → (Int) → (List (Int × Int)) → (List Int) → (List Int) → (List Int) → Option ((Int) × (List (Int × Int)))} (hR : ∀ {w0 : World} {p0 : Int} {p1 : Int} {q2_0_0_0 : Int} {b2_0_0 : Nat} {l2_0_1_0 : List Int} {A2_0_1_0 : Option Addr} {cap2_0_1_0 : Nat} {fp2_0_1_0 : List Nat} {l2_0_1_1 : List Int} {A2_0_1_1 : Option Addr} {cap2_0_1_1 : Nat} {fp2_0_1_1 : List Nat} {b2_0_1 : Nat} {q2_0_2_0 : Int} {b2_0_2 : Nat} {l2_0_3_0 : List (Int × Int)} {b2_0_3_0 : Nat} {b2_0_3 : Nat} {b2 : Nat} {l3_0 : List Int} {A3_0 : Option Addr} {cap3_0 : Nat} {fp3_0 : List Nat} {b3 : Nat} {l4_0 : List Int} {A4_0 : Option Addr} {cap4_0 : Nat} {fp4_0 : List Nat} {l4_1 : List Int} {A4_1 : Option Addr} {cap4_1 : Nat} {fp4_1 : List Nat} {b4 : Nat} {b5 : Nat} {r : (Int) × (List (Int × Int))} (hm : R p0 p1 q2_0_0_0 l2_0_1_0 l2_0_1_1 q2_0_2_0 l2_0_3_0 l3_0 l4_0 l4_1 = some r) (F2_0_0 : Cl w0 b2_0_0 3 [ii q2_0_0_0]) (F2_0_1_0 : S1 w0 fp2_0_1_0 A2_0_1_0 l2_0_1_0) (F2_0_1_1 : S1 w0 fp2_0_1_1 A2_0_1_1 l2_0_1_1) (F2_0_1 : Cl w0 b2_0_1 58 [.slice A2_0_1_0 l2_0_1_0.length cap2_0_1_0, .slice A2_0_1_1 l2_0_1_1.length cap2_0_1_1]) (F2_0_2 : Cl w0 b2_0_2 3 [ii q2_0_2_0]) (F2_0_3_0 : Mp okI kI kI w0 b2_0_3_0 l2_0_3_0) (F2_0_3 : Cl w0 b2_0_3 105 [.map (some b2_0_3_0)]) (F2 : Cl w0 b2 108 [.func (.func 102) #[] #[pt b2_0_0, pt b2_0_1, pt b2_0_2, pt b2_0_3]]) (F3_0 : S1 w0 fp3_0 A3_0 l3_0) (F3 : Cl w0 b3 56 [.slice A3_0 l3_0.length cap3_0]) (F4_0 : S1 w0 fp4_0 A4_0 l4_0) (F4_1 : S1 w0 fp4_1 A4_1 l4_1) (F4 : Cl w0 b4 58 [.slice A4_0 l4_0.length cap4_0, .slice A4_1 l4_1.length cap4_1]) (F5 : Cl w0 b5 127 [.func (.func 103) #[] #[pt b2, pt b3, pt b4, pt b5]]) (J2_0_0__2_0_1_0 : Dj [b2_0_0] fp2_0_1_0) (J2_0_0__2_0_1_1 : Dj [b2_0_0] fp2_0_1_1) (J2_0_0__2_0_1 : Dj [b2_0_0] [b2_0_1]) (J2_0_0__2_0_2 : Dj [b2_0_0] [b2_0_2]) (J2_0_0__2_0_3_0 : Dj [b2_0_0] [b2_0_3_0]) (J2_0_0__2_0_3 : Dj [b2_0_0] [b2_0_3]) (J2_0_0__2 : Dj [b2_0_0] [b2]) (J2_0_0__3_0 : Dj [b2_0_0] fp3_0) (J2_0_0__3 : Dj [b2_0_0] [b3]) (J2_0_0__4_0 : Dj [b2_0_0] fp4_0) (J2_0_0__4_1 : Dj [b2_0_0] fp4_1) (J2_0_0__4 : Dj [b2_0_0] [b4]) (J2_0_0__5 : Dj [b2_0_0] [b5]) (J2_0_3_0__2_0_1_0 : Dj [b2_0_3_0] fp2_0_1_0) (J2_0_3_0__2_0_1_1 : Dj [b2_0_3_0] fp2_0_1_1) (J2_0_3_0__2_0_1 : Dj [b2_0_3_0] [b2_0_1]) (J2_0_3_0__2_0_2 : Dj [b2_0_3_0] [b2_0_2]) (J2_0_3_0__2_0_3 : Dj [b2_0_3_0] [b2_0_3]) (J2_0_3_0__2 : Dj [b2_0_3_0] [b2]) (J2_0_3_0__3_0 : Dj [b2_0_3_0] fp3_0) (J2_0_3_0__3 : Dj [b2_0_3_0] [b3]) (J2_0_3_0__4_0 : Dj [b2_0_3_0] fp4_0) (J2_0_3_0__4_1 : Dj [b2_0_3_0] fp4_1) (J2_0_3_0__4 : Dj [b2_0_3_0] [b4]) (J2_0_3_0__5 : Dj [b2_0_3_0] [b5]), Calls Tryd.prog 103 #[ii p0, ii p1, pt b2, pt b3, pt b4, pt b5] w0 fun e w' => e = .returned (.tuple #[]) ∧ Cl w' b2_0_0 3 [ii r.1] ∧ Mp okI kI kI w' b2_0_3_0 r.2 ∧ Chg ([b2_0_0] ++ ([b2_0_3_0] ++ [])) w0 w') {w0 : World} {p0 : Int} {p1 : Int} {q2_0_0_0 : Int} {b2_0_0 : Nat} {l2_0_1_0 : List Int} {A2_0_1_0 : Option Addr} {cap2_0_1_0 : Nat} {fp2_0_1_0 : List Nat} {l2_0_1_1 : List Int} {A2_0_1_1 : Option Addr} {cap2_0_1_1 : Nat} {fp2_0_1_1 : List Nat} {b2_0_1 : Nat} {q2_0_2_0 : Int} {b2_0_2 : Nat} {l2_0_3_0 : List (Int × Int)} {b2_0_3_0 : Nat} {b2_0_3 : Nat} {b2 : Nat} {l3_0 : List Int} {A3_0 : Option Addr} {cap3_0 : Nat} {fp3_0 : List Nat} {b3 : Nat} {l4_0 : List Int} {A4_0 : Option Addr} {cap4_0 : Nat} {fp4_0 : List Nat} {l4_1 : List Int} {A4_1 : Option Addr} {cap4_1 : Nat} {fp4_1 : List Nat} {b4 : Nat} {b5 : Nat} {r : (Int) × (List (Int × Int))} (hm : m_iOrderFirst1_f_b  R_impl_order_fewest R p0 p1 q2_0_0_0 l2_0_1_0 l2_0_1_1 q2_0_2_0 l2_0_3_0 l3_0 l4_0 l4_1 = some r) (F2_0_0 : Cl w0 b2_0_0 3 [ii q2_0_0_0]) (F2_0_1_0 : S1 w0 fp2_0_1_0 A2_0_1_0 l2_0_1_0) (F2_0_1_1 : S1 w0 fp2_0_1_1 A2_0_1_1 l2_0_1_1) (F2_0_1 : Cl w0 b2_0_1 58 [.slice A2_0_1_0 l2_0_1_0.length cap2_0_1_0, .slice A2_0_1_1 l2_0_1_1.length cap2_0_1_1]) (F2_0_2 : Cl w0 b2_0_2 3 [ii q2_0_2_0]) (F2_0_3_0 : Mp okI kI kI w0 b2_0_3_0 l2_0_3_0) (F2_0_3 : Cl w0 b2_0_3 105 [.map (some b2_0_3_0)]) (F2 : Cl w0 b2 108 [.func (.func 102) #[] #[pt b2_0_0, pt b2_0_1, pt b2_0_2, pt b2_0_3]]) (F3_0 : S1 w0 fp3_0 A3_0 l3_0) (F3 : Cl w0 b3 56 [.slice A3_0 l3_0.length cap3_0]) (F4_0 : S1 w0 fp4_0 A4_0 l4_0) (F4_1 : S1 w0 fp4_1 A4_1 l4_1) (F4 : Cl w0 b4 58 [.slice A4_0 l4_0.length cap4_0, .slice A4_1 l4_1.length cap4_1]) (F5 : Cl w0 b5 127 [.func (.func 103) #[] #[pt b2, pt b3, pt b4, pt b5]]) (J2_0_0__2_0_1_0 : Dj [b2_0_0] fp2_0_1_0) (J2_0_0__2_0_1_1 : Dj [b2_0_0] fp2_0_1_1) (J2_0_0__2_0_1 : Dj [b2_0_0] [b2_0_1]) (J2_0_0__2_0_2 : Dj [b2_0_0] [b2_0_2]) (J2_0_0__2_0_3_0 : Dj [b2_0_0] [b2_0_3_0]) (J2_0_0__2_0_3 : Dj [b2_0_0] [b2_0_3]) (J2_0_0__2 : Dj [b2_0_0] [b2]) (J2_0_0__3_0 : Dj [b2_0_0] fp3_0) (J2_0_0__3 : Dj [b2_0_0] [b3]) (J2_0_0__4_0 : Dj [b2_0_0] fp4_0) (J2_0_0__4_1 : Dj [b2_0_0] fp4_1) (J2_0_0__4 : Dj [b2_0_0] [b4]) (J2_0_0__5 : Dj [b2_0_0] [b5]) (J2_0_3_0__2_0_1_0 : Dj [b2_0_3_0] fp2_0_1_0) (J2_0_3_0__2_0_1_1 : Dj [b2_0_3_0] fp2_0_1_1) (J2_0_3_0__2_0_1 : Dj [b2_0_3_0] [b2_0_1]) (J2_0_3_0__2_0_2 : Dj [b2_0_3_0] [b2_0_2]) (J2_0_3_0__2_0_3 : Dj [b2_0_3_0] [b2_0_3]) (J2_0_3_0__2 : Dj [b2_0_3_0] [b2]) (J2_0_3_0__3_0 : Dj [b2_0_3_0] fp3_0) (J2_0_3_0__3 : Dj [b2_0_3_0] [b3]) (J2_0_3_0__4_0 : Dj [b2_0_3_0] fp4_0) (J2_0_3_0__4_1 : Dj [b2_0_3_0] fp4_1) (J2_0_3_0__4 : Dj [b2_0_3_0] [b4]) (J2_0_3_0__5 : Dj [b2_0_3_0] [b5]) :
  Calls Tryd.prog 103 #[ii p0, ii p1, pt b2, pt b3, pt b4, pt b5] w0 fun e w' => e = .returned (.tuple #[]) ∧ Cl w' b2_0_0 3 [ii r.1] ∧ Mp okI kI kI w' b2_0_3_0 r.2 ∧ Chg ([b2_0_0] ++ ([b2_0_3_0] ++ [])) w0 w' := by
 have L2_0_0 := lt1 F2_0_0.lt
 have L2_0_1_0 := F2_0_1_0.low
 have L2_0_1_1 := F2_0_1_1.low
 have L2_0_1 := lt1 F2_0_1.lt
 have L2_0_2 := lt1 F2_0_2.lt
 have L2_0_3_0 := F2_0_3_0.low
 have L2_0_3 := lt1 F2_0_3.lt
 have L2 := lt1 F2.lt
 have L3_0 := F3_0.low
 have L3 := lt1 F3.lt
 have L4_0 := F4_0.low
 have L4_1 := F4_1.low
 have L4 := lt1 F4.lt
 have L5 := lt1 F5.lt
 have hB : Chg ([b2_0_0] ++ ([b2_0_3_0] ++ [])) w0 w0 := Chg.refl _ _
 unfold m_iOrderFirst1_f_b at hm
 refine enterE (N := 43) Tryd.func103 (by rfl) Tryd.ntmps103 (by simp) [(0, ii p0), (1, ii p1), (2, pt b2), (3, pt b3), (4, pt b4), (5, pt b5)] (by rfl) (by kernel_rfl) (fun a => ?_)
 obtain ⟨s1, hs1, hm⟩ := bindE hm
 refine cW_cut (fun a' w' => ∃ x1 : Int, ∃ l1 : List (Int × Int), (x1, l1) = s1 ∧ Fr 43 [] a' ∧ Cl w' b2_0_0 3 [ii x1] ∧ Mp okI kI kI w' b2_0_3_0 l1 ∧ Chg ([b2_0_0] ++ ([b2_0_3_0] ++ [])) w0 w') ?_ ?_
 ·have hm := hs1
  refine cW_seq ?_
  obtain ⟨s2, hs2, hm⟩ := bindE hm
  refine cW_cut (fun a' w' => ∃ x2 : Int, ∃ l2 : List (Int × Int), (x2, l2) = s2 ∧ Fr 43 [(0, ii p0), (1, ii p1), (3, pt b3), (4, pt b4), (5, pt b5)] a' ∧ Cl w' b2_0_0 3 [ii x2] ∧ S1 w' fp2_0_1_0 A2_0_1_0 l2_0_1_0 ∧ S1 w' fp2_0_1_1 A2_0_1_1 l2_0_1_1 ∧ Cl w' b2_0_1 58 [.slice A2_0_1_0 l2_0_1_0.length cap2_0_1_0, .slice A2_0_1_1 l2_0_1_1.length cap2_0_1_1] ∧ Cl w' b2_0_2 3 [ii q2_0_2_0] ∧ Mp okI kI kI w' b2_0_3_0 l2 ∧ Cl w' b2_0_3 105 [.map (some b2_0_3_0)] ∧ Cl w' b2 108 [.func (.func 102) #[] #[pt b2_0_0, pt b2_0_1, pt b2_0_2, pt b2_0_3]] ∧ S1 w' fp3_0 A3_0 l3_0 ∧ Cl w' b3 56 [.slice A3_0 l3_0.length cap3_0] ∧ S1 w' fp4_0 A4_0 l4_0 ∧ S1 w' fp4_1 A4_1 l4_1 ∧ Cl w' b4 58 [.slice A4_0 l4_0.length cap4_0, .slice A4_1 l4_1.length cap4_1] ∧ Cl w' b5 127 [.func (.func 103) #[] #[pt b2, pt b3, pt b4, pt b5]] ∧ Chg ([b2_0_0] ++ ([b2_0_3_0] ++ [])) w0 w') ?_ ?_
  ·have hm := hs2
   refine sR <| wP 2 [(10, .bool (p1 != 0)), (9, ii p1)] <| wN <| cC (p1 != 0) (fun hb1 => ?_) (fun hb1 => ?_)
   ·have hm := condT hb1 hm
    refine cW_region <| sL 11 ⟨b2, 0, none⟩ (.func (.func 102) #[] #[pt b2_0_0, pt b2_0_1, pt b2_0_2, pt b2_0_3]) vt108 ((F2).cell 0) <| wP 1 [(12, ii p1)] ?_
    obtain ⟨y1, hy1, hm⟩ := bindE hm
    refine sC 13 [ii p1, pt b2_0_0, pt b2_0_1, pt b2_0_2, pt b2_0_3] ent102 (c_iOrderFewes1 hR_impl_order_fewest hy1 F2_0_0 F2_0_1_0 F2_0_1_1 F2_0_1 F2_0_2 F2_0_3_0 F2_0_3 J2_0_0__2_0_1_0 J2_0_0__2_0_1_1 J2_0_0__2_0_1 J2_0_0__2_0_2 J2_0_0__2_0_3_0 J2_0_0__2_0_3 J2_0_3_0__2_0_1_0 J2_0_3_0__2_0_1_1 J2_0_3_0__2_0_1 J2_0_3_0__2_0_2 J2_0_3_0__2_0_3) ?_
    rintro _ w1 ⟨rfl, F1, F6, hc1⟩
    replace F2_0_1_0 := F2_0_1_0.chg hc1 (Dj.app (J2_0_0__2_0_1_0).symm (Dj.app (J2_0_3_0__2_0_1_0).symm Dj.nil))
    replace F2_0_1_1 := F2_0_1_1.chg hc1 (Dj.app (J2_0_0__2_0_1_1).symm (Dj.app (J2_0_3_0__2_0_1_1).symm Dj.nil))
    replace F2_0_1 := F2_0_1.chg hc1 (dj1 (Dj.app (J2_0_0__2_0_1).symm (Dj.app (J2_0_3_0__2_0_1).symm Dj.nil)))
    replace F2_0_2 := F2_0_2.chg hc1 (dj1 (Dj.app (J2_0_0__2_0_2).symm (Dj.app (J2_0_3_0__2_0_2).symm Dj.nil)))
    replace F2_0_3 := F2_0_3.chg hc1 (dj1 (Dj.app (J2_0_0__2_0_3).symm (Dj.app (J2_0_3_0__2_0_3).symm Dj.nil)))
    replace F2 := F2.chg hc1 (dj1 (Dj.app (J2_0_0__2).symm (Dj.app (J2_0_3_0__2).symm Dj.nil)))
    replace F3_0 := F3_0.chg hc1 (Dj.app (J2_0_0__3_0).symm (Dj.app (J2_0_3_0__3_0).symm Dj.nil))
    replace F3 := F3.chg hc1 (dj1 (Dj.app (J2_0_0__3).symm (Dj.app (J2_0_3_0__3).symm Dj.nil)))
    replace F4_0 := F4_0.chg hc1 (Dj.app (J2_0_0__4_0).symm (Dj.app (J2_0_3_0__4_0).symm Dj.nil))
    replace F4_1 := F4_1.chg hc1 (Dj.app (J2_0_0__4_1).symm (Dj.app (J2_0_3_0__4_1).symm Dj.nil))
    replace F4 := F4.chg hc1 (dj1 (Dj.app (J2_0_0__4).symm (Dj.app (J2_0_3_0__4).symm Dj.nil)))
    replace F5 := F5.chg hc1 (dj1 (Dj.app (J2_0_0__5).symm (Dj.app (J2_0_3_0__5).symm Dj.nil)))
    replace hB := hB.inS hc1 (inApp (inMem (fun x hx => (List.mem_append_left _ hx))) (inApp (inMem (fun x hx => (List.mem_append_right _ (List.mem_append_left _ hx)))) inNil))
    clear F2_0_0
    clear F2_0_3_0
    refine ⟨.tuple #[], rfl, ?_⟩
    refine wE ?_
    obtain rfl := someE (x := ((y1.1, y1.2))) hm
    exact eX_J (fun hst => ⟨y1.1, y1.2, rfl, fO hst, F1, F2_0_1_0, F2_0_1_1, F2_0_1, F2_0_2, F6, F2_0_3, F2, F3_0, F3, F4_0, F4_1, F4, F5, hB⟩)
   have hm := condF hb1 hm
   refine cW_skip ?_
   obtain rfl := someE (x := ((q2_0_0_0, l2_0_3_0))) hm
   exact eX_J (fun hst => ⟨q2_0_0_0, l2_0_3_0, rfl, fO hst, F2_0_0, F2_0_1_0, F2_0_1_1, F2_0_1, F2_0_2, F2_0_3_0, F2_0_3, F2, F3_0, F3, F4_0, F4_1, F4, F5, hB⟩)
  rintro a' w2 ⟨x2, l2, hJ, hF1, F7, F8, F9, F10, F11, F12, F13, F14, F15, F16, F17, F18, F19, F20, hB⟩
  subst hJ
  refine gX hF1 <| eX_then <| sR <| wP 2 [(8, ii p0), (14, ii p0)] <| wN ?_
  obtain ⟨r1, hr1, hm⟩ := bindE hm
  have hm1 := hm
  refine cW_cut (fun a' w' => ∃ x3 : Int, ∃ l3 : List (Int × Int), (x3, l3) = r1 ∧ Fr 43 [] a' ∧ Cl w' b2_0_0 3 [ii x3] ∧ Mp okI kI kI w' b2_0_3_0 l3 ∧ Chg ([b2_0_0] ++ ([b2_0_3_0] ++ [])) w0 w') ?_ ?_
  ·refine cW_block ?_
   refine cW_loop _ (fun (s3 : Int × Int × (List (Int × Int))) a' w' => ∃ x4 : Int, ∃ x5 : Int, ∃ l4 : List (Int × Int), (x4, x5, l4) = s3 ∧ Fr 43 [(1, ii p1), (3, pt b3), (4, pt b4), (5, pt b5), (8, ii x4)] a' ∧ Cl w' b2_0_0 3 [ii x5] ∧ S1 w' fp2_0_1_0 A2_0_1_0 l2_0_1_0 ∧ S1 w' fp2_0_1_1 A2_0_1_1 l2_0_1_1 ∧ Cl w' b2_0_1 58 [.slice A2_0_1_0 l2_0_1_0.length cap2_0_1_0, .slice A2_0_1_1 l2_0_1_1.length cap2_0_1_1] ∧ Cl w' b2_0_2 3 [ii q2_0_2_0] ∧ Mp okI kI kI w' b2_0_3_0 l4 ∧ Cl w' b2_0_3 105 [.map (some b2_0_3_0)] ∧ Cl w' b2 108 [.func (.func 102) #[] #[pt b2_0_0, pt b2_0_1, pt b2_0_2, pt b2_0_3]] ∧ S1 w' fp3_0 A3_0 l3_0 ∧ Cl w' b3 56 [.slice A3_0 l3_0.length cap3_0] ∧ S1 w' fp4_0 A4_0 l4_0 ∧ S1 w' fp4_1 A4_1 l4_1 ∧ Cl w' b4 58 [.slice A4_0 l4_0.length cap4_0, .slice A4_1 l4_1.length cap4_1] ∧ Cl w' b5 127 [.func (.func 103) #[] #[pt b2, pt b3, pt b4, pt b5]] ∧ Chg ([b2_0_0] ++ ([b2_0_3_0] ++ [])) w0 w') hr1 (fun hst => ⟨p0, x2, l2, rfl, fO hst, F7, F8, F9, F10, F11, F12, F13, F14, F15, F16, F17, F18, F19, F20, hB⟩) ?_
   rintro _ c1 a' w3 ⟨x4, x5, l4, rfl, hF2, F21, F22, F23, F24, F25, F26, F27, F28, F29, F30, F31, F32, F33, F34, hB⟩ hx1
   refine gO hF2 ?_
   have hm := hx1
   unfold m_iOrderFirst1_f_s2 at hm
   refine cW_seq <| sR <| wP 1 [(15, ii x4)] <| sL 16 ⟨b3, 0, none⟩ (.slice A3_0 l3_0.length cap3_0) vt56 ((F30).cell 0) <| wP 2 [(18, .bool (decide (x4 < ((l3_0.length : Int))))), (17, ii (l3_0.length : Int))] <| wN <| cC (decide (x4 < ((l3_0.length : Int)))) (fun hb2 => ?_) (fun hb2 => ?_)
   ·have hm := condT hb2 hm
    refine cW_skip <| eX_then <| cW_seq <| cW_block ?_
    obtain ⟨s4, hs3, hm⟩ := bindE hm
    refine cW_cut (fun a' w' => ∃ x6 : Int, ∃ l5 : List (Int × Int), (x6, l5) = s4 ∧ Fr 43 [(1, ii p1), (3, pt b3), (4, pt b4), (5, pt b5), (8, ii x4)] a' ∧ Cl w' b2_0_0 3 [ii x6] ∧ S1 w' fp2_0_1_0 A2_0_1_0 l2_0_1_0 ∧ S1 w' fp2_0_1_1 A2_0_1_1 l2_0_1_1 ∧ Cl w' b2_0_1 58 [.slice A2_0_1_0 l2_0_1_0.length cap2_0_1_0, .slice A2_0_1_1 l2_0_1_1.length cap2_0_1_1] ∧ Cl w' b2_0_2 3 [ii q2_0_2_0] ∧ Mp okI kI kI w' b2_0_3_0 l5 ∧ Cl w' b2_0_3 105 [.map (some b2_0_3_0)] ∧ Cl w' b2 108 [.func (.func 102) #[] #[pt b2_0_0, pt b2_0_1, pt b2_0_2, pt b2_0_3]] ∧ S1 w' fp3_0 A3_0 l3_0 ∧ Cl w' b3 56 [.slice A3_0 l3_0.length cap3_0] ∧ S1 w' fp4_0 A4_0 l4_0 ∧ S1 w' fp4_1 A4_1 l4_1 ∧ Cl w' b4 58 [.slice A4_0 l4_0.length cap4_0, .slice A4_1 l4_1.length cap4_1] ∧ Cl w' b5 127 [.func (.func 103) #[] #[pt b2, pt b3, pt b4, pt b5]] ∧ Chg ([b2_0_0] ++ ([b2_0_3_0] ++ [])) w0 w') ?_ ?_
    ·have hm := hs3
     refine cW_seq <| cW_drawnTail [] 9 (by kernel_rfl) (by kernel_rfl) (fun w4 hc2 => ?_)
     replace F21 := F21.c hc2
     replace F22 := F22.c hc2
     replace F23 := F23.c hc2
     replace F24 := F24.c hc2
     replace F25 := F25.c hc2
     replace F26 := F26.c hc2
     replace F27 := F27.c hc2
     replace F28 := F28.c hc2
     replace F29 := F29.c hc2
     replace F30 := F30.c hc2
     replace F31 := F31.c hc2
     replace F32 := F32.c hc2
     replace F33 := F33.c hc2
     replace F34 := F34.c hc2
     replace hB := hB.q hc2
     have hS := Chg.refl [] w4
     have Z1 := F21
     have Z2 := F22
     have Z3 := F23
     have Z4 := F24
     have Z5 := F25
     have Z6 := F26
     have Z7 := F27
     have Z8 := F28
     have Z9 := F29
     have Z10 := F30
     have Z11 := F31
     have Z12 := F32
     have Z13 := F33
     have Z14 := F34
     refine hT [0] [(21, pt b4)] <| hL 1 22 ⟨b4, 0, none⟩ (.slice A4_0 l4_0.length cap4_0) vt56 (fun W hW => (Z13.c hW).cell 0) ?_
     refine hL 2 23 ⟨b3, 0, none⟩ (.slice A3_0 l3_0.length cap3_0) vt56 (fun W hW => (Z10.c hW).cell 0) ?_
     refine hT [3] [(24, ii x4)] ?_
     obtain ⟨x7, hx2, hm⟩ := bindE hm
     refine hI 4 25 A3_0 l3_0.length cap3_0 .i64 x4 sl56 (F29.is hx2) <| hL 5 26 (elA A3_0 1 (x4) 0) (ii x7) vt3 (fun W hW => Sl.cell (Z9.c hW) hx2 0 (by rfl)) ?_
     obtain ⟨x8, hx3, hm⟩ := bindE hm
     refine hI 6 27 A4_0 l4_0.length cap4_0 .i64 x7 sl56 (F31.is hx3) <| hL 7 28 (elA A4_0 1 (x7) 0) (ii x8) vt3 (fun W hW => Sl.cell (Z11.c hW) hx3 0 (by rfl)) ?_
     refine hT [8] [(29, ii p1)] <| wD <| eX_tail <| wP 2 [(31, .bool ((andI x8 p1) == 0)), (30, ii (andI x8 p1))] <| wN <| cC ((andI x8 p1) == 0) (fun hb3 => ?_) (fun hb3 => ?_)
     ·have hm := condT hb3 hm
      refine cW_drawnTail [] 10 (by kernel_rfl) (by kernel_rfl) (fun w5 hc3 => ?_)
      replace F21 := F21.c hc3
      replace F22 := F22.c hc3
      replace F23 := F23.c hc3
      replace F24 := F24.c hc3
      replace F25 := F25.c hc3
      replace F26 := F26.c hc3
      replace F27 := F27.c hc3
      replace F28 := F28.c hc3
      replace F29 := F29.c hc3
      replace F30 := F30.c hc3
      replace F31 := F31.c hc3
      replace F32 := F32.c hc3
      replace F33 := F33.c hc3
      replace F34 := F34.c hc3
      replace hB := hB.q hc3
      have hS := Chg.refl [] w5
      have Z15 := F21
      have Z16 := F22
      have Z17 := F23
      have Z18 := F24
      have Z19 := F25
      have Z20 := F26
      have Z21 := F27
      have Z22 := F28
      have Z23 := F29
      have Z24 := F30
      have Z25 := F31
      have Z26 := F32
      have Z27 := F33
      have Z28 := F34
      refine hL 0 32 ⟨b5, 0, none⟩ (.func (.func 103) #[] #[pt b2, pt b3, pt b4, pt b5]) vt127 (fun W hW => (Z28.c hW).cell 0) ?_
      refine hT [1, 2, 3] [(35, ii p1), (34, ii (wr (x4 + 1))), (33, ii x4)] <| hL 4 36 ⟨b3, 0, none⟩ (.slice A3_0 l3_0.length cap3_0) vt56 (fun W hW => (Z24.c hW).cell 0) ?_
      refine hT [5] [(37, ii x4)] ?_
      obtain ⟨x9, hx4, hm⟩ := bindE hm
      refine hI 6 38 A3_0 l3_0.length cap3_0 .i64 x4 sl56 (F29.is hx4) <| hL 7 39 (elA A3_0 1 (x4) 0) (ii x9) vt3 (fun W hW => Sl.cell (Z23.c hW) hx4 0 (by rfl)) ?_
      obtain ⟨u1, hu1, hm⟩ := bindE hm
      refine wH_shl (i := 8) (d := 40) (x := 1) (y := x9) (yk := .i64) (by kernel_rfl) (qT (qT (qB (qT (qL (qB (qT (qT qZ)))))))) (by kernel_rfl) (by kernel_rfl) (p0E hu1) <| hT [9] [(41, ii (orI p1 (shlI 1 x9)))] <| wD <| eX_tail ?_
      obtain ⟨y2, hy2, hm⟩ := bindE hm
      refine sC 42 [ii (wr (x4 + 1)), ii (orI p1 (shlI 1 x9)), pt b2, pt b3, pt b4, pt b5] ent103 (hR hy2 F21 F22 F23 F24 F25 F26 F27 F28 F29 F30 F31 F32 F33 F34 J2_0_0__2_0_1_0 J2_0_0__2_0_1_1 J2_0_0__2_0_1 J2_0_0__2_0_2 J2_0_0__2_0_3_0 J2_0_0__2_0_3 J2_0_0__2 J2_0_0__3_0 J2_0_0__3 J2_0_0__4_0 J2_0_0__4_1 J2_0_0__4 J2_0_0__5 J2_0_3_0__2_0_1_0 J2_0_3_0__2_0_1_1 J2_0_3_0__2_0_1 J2_0_3_0__2_0_2 J2_0_3_0__2_0_3 J2_0_3_0__2 J2_0_3_0__3_0 J2_0_3_0__3 J2_0_3_0__4_0 J2_0_3_0__4_1 J2_0_3_0__4 J2_0_3_0__5) ?_
      rintro _ w6 ⟨rfl, F35, F36, hc4⟩
      replace F22 := F22.chg hc4 (Dj.app (J2_0_0__2_0_1_0).symm (Dj.app (J2_0_3_0__2_0_1_0).symm Dj.nil))
      replace F23 := F23.chg hc4 (Dj.app (J2_0_0__2_0_1_1).symm (Dj.app (J2_0_3_0__2_0_1_1).symm Dj.nil))
      replace F24 := F24.chg hc4 (dj1 (Dj.app (J2_0_0__2_0_1).symm (Dj.app (J2_0_3_0__2_0_1).symm Dj.nil)))
      replace F25 := F25.chg hc4 (dj1 (Dj.app (J2_0_0__2_0_2).symm (Dj.app (J2_0_3_0__2_0_2).symm Dj.nil)))
      replace F27 := F27.chg hc4 (dj1 (Dj.app (J2_0_0__2_0_3).symm (Dj.app (J2_0_3_0__2_0_3).symm Dj.nil)))
      replace F28 := F28.chg hc4 (dj1 (Dj.app (J2_0_0__2).symm (Dj.app (J2_0_3_0__2).symm Dj.nil)))
      replace F29 := F29.chg hc4 (Dj.app (J2_0_0__3_0).symm (Dj.app (J2_0_3_0__3_0).symm Dj.nil))
      replace F30 := F30.chg hc4 (dj1 (Dj.app (J2_0_0__3).symm (Dj.app (J2_0_3_0__3).symm Dj.nil)))
      replace F31 := F31.chg hc4 (Dj.app (J2_0_0__4_0).symm (Dj.app (J2_0_3_0__4_0).symm Dj.nil))
      replace F32 := F32.chg hc4 (Dj.app (J2_0_0__4_1).symm (Dj.app (J2_0_3_0__4_1).symm Dj.nil))
      replace F33 := F33.chg hc4 (dj1 (Dj.app (J2_0_0__4).symm (Dj.app (J2_0_3_0__4).symm Dj.nil)))
      replace F34 := F34.chg hc4 (dj1 (Dj.app (J2_0_0__5).symm (Dj.app (J2_0_3_0__5).symm Dj.nil)))
      replace hB := hB.inS hc4 (inApp (inMem (fun x hx => (List.mem_append_left _ hx))) (inApp (inMem (fun x hx => (List.mem_append_right _ (List.mem_append_left _ hx)))) inNil))
      clear F21
      clear F26
      refine ⟨.tuple #[], rfl, ?_⟩
      refine wE ?_
      obtain rfl := someE (x := ((y2.1, y2.2))) hm
      exact eX_J (fun hst => ⟨y2.1, y2.2, rfl, fO hst, F35, F22, F23, F24, F25, F36, F27, F28, F29, F30, F31, F32, F33, F34, hB⟩)
     have hm := condF hb3 hm
     refine cW_skip ?_
     obtain rfl := someE (x := ((x5, l4))) hm
     exact eX_J (fun hst => ⟨x5, l4, rfl, fO hst, F21, F22, F23, F24, F25, F26, F27, F28, F29, F30, F31, F32, F33, F34, hB⟩)
    rintro a' w7 ⟨x6, l5, hJ, hF3, F37, F38, F39, F40, F41, F42, F43, F44, F45, F46, F47, F48, F49, F50, hB⟩
    subst hJ
    refine gX hF3 <| eX_block <| eX_then <| cW_region <| wP 3 [(8, ii (wr (x4 + 1))), (20, ii (wr (x4 + 1))), (19, ii x4)] <| wE ?_
    obtain rfl := someE (x := (Ctl.next ((wr (x4 + 1), x6, l5)))) hm
    exact eX_next hx1 (fun hst => ⟨wr (x4 + 1), x6, l5, rfl, fO hst, F37, F38, F39, F40, F41, F42, F43, F44, F45, F46, F47, F48, F49, F50, hB⟩)
   have hm := condF hb2 hm
   refine cW_exit <| eX_then_exit ?_
   obtain rfl := someE (x := (Ctl.out ((x5, l4)))) hm
   refine eX_outX hx1 (fun hr2 => ?_)
   replace hr2 := hr2.symm
   subst hr2
   refine eX_block_hit ?_
   exact eX_J (fun hst => ⟨x5, l4, rfl, fO hst, F21, F26, hB⟩)
  rintro a' w8 ⟨x3, l3, hJ, hF4, F51, F52, hB⟩
  subst hJ
  refine gX hF4 ?_
  obtain rfl := someE (x := ((x3, l3))) hm
  exact eX_J (fun hst => ⟨x3, l3, rfl, fO hst, F51, F52, hB⟩)
 rintro a' w9 ⟨x1, l1, hJ, hF5, F53, F54, hB⟩
 subst hJ
 refine gX hF5 ?_
 obtain rfl := someE (x := ((x1, l1))) hm
 refine eX_fall (vs := []) [] (by rfl) trivial ?_
 exact ⟨rfl, F53, F54, hB⟩
set_option maxRecDepth 100000 in
theorem c_iOrderFirst1_f {R_impl_order_fewest : (List Int) → (List Int) → (Int) → (List (Int × Int)) → Option ((Int) × (List (Int × Int)))} (hR_impl_order_fewest : ∀ {w0 : World} {l0_0 : List Int} {A0_0 : Option Addr} {cap0_0 : Nat} {fp0_0 : List Nat} {l0_1 : List Int} {A0_1 : Option Addr} {cap0_1 : Nat} {fp0_1 : List Nat} {p1 : Int} {l2 : List (Int × Int)} {b2 : Nat} {r : (Int) × (List (Int × Int))} (hm : R_impl_order_fewest l0_0 l0_1 p1 l2 = some r) (F0_0 : S1 w0 fp0_0 A0_0 l0_0) (F0_1 : S1 w0 fp0_1 A0_1 l0_1) (F2 : Mp okI kI kI w0 b2 l2) (J2__0_0 : Dj [b2] fp0_0) (J2__0_1 : Dj [b2] fp0_1), Calls Tryd.prog 78 #[.agg #[.slice A0_0 l0_0.length cap0_0, .slice A0_1 l0_1.length cap0_1], ii p1, .map (some b2)] w0 fun e w' => e = .returned (ii r.1) ∧ Mp okI kI kI w' b2 r.2 ∧ Chg ([b2] ++ []) w0 w') (n : Nat) : ∀ {w0 : World} {p0 : Int} {p1 : Int} {q2_0_0_0 : Int} {b2_0_0 : Nat} {l2_0_1_0 : List Int} {A2_0_1_0 : Option Addr} {cap2_0_1_0 : Nat} {fp2_0_1_0 : List Nat} {l2_0_1_1 : List Int} {A2_0_1_1 : Option Addr} {cap2_0_1_1 : Nat} {fp2_0_1_1 : List Nat} {b2_0_1 : Nat} {q2_0_2_0 : Int} {b2_0_2 : Nat} {l2_0_3_0 : List (Int × Int)} {b2_0_3_0 : Nat} {b2_0_3 : Nat} {b2 : Nat} {l3_0 : List Int} {A3_0 : Option Addr} {cap3_0 : Nat} {fp3_0 : List Nat} {b3 : Nat} {l4_0 : List Int} {A4_0 : Option Addr} {cap4_0 : Nat} {fp4_0 : List Nat} {l4_1 : List Int} {A4_1 : Option Addr} {cap4_1 : Nat} {fp4_1 : List Nat} {b4 : Nat} {b5 : Nat} {r : (Int) × (List (Int × Int))} (hm : m_iOrderFirst1_f R_impl_order_fewest n p0 p1 q2_0_0_0 l2_0_1_0 l2_0_1_1 q2_0_2_0 l2_0_3_0 l3_0 l4_0 l4_1 = some r) (F2_0_0 : Cl w0 b2_0_0 3 [ii q2_0_0_0]) (F2_0_1_0 : S1 w0 fp2_0_1_0 A2_0_1_0 l2_0_1_0) (F2_0_1_1 : S1 w0 fp2_0_1_1 A2_0_1_1 l2_0_1_1) (F2_0_1 : Cl w0 b2_0_1 58 [.slice A2_0_1_0 l2_0_1_0.length cap2_0_1_0, .slice A2_0_1_1 l2_0_1_1.length cap2_0_1_1]) (F2_0_2 : Cl w0 b2_0_2 3 [ii q2_0_2_0]) (F2_0_3_0 : Mp okI kI kI w0 b2_0_3_0 l2_0_3_0) (F2_0_3 : Cl w0 b2_0_3 105 [.map (some b2_0_3_0)]) (F2 : Cl w0 b2 108 [.func (.func 102) #[] #[pt b2_0_0, pt b2_0_1, pt b2_0_2, pt b2_0_3]]) (F3_0 : S1 w0 fp3_0 A3_0 l3_0) (F3 : Cl w0 b3 56 [.slice A3_0 l3_0.length cap3_0]) (F4_0 : S1 w0 fp4_0 A4_0 l4_0) (F4_1 : S1 w0 fp4_1 A4_1 l4_1) (F4 : Cl w0 b4 58 [.slice A4_0 l4_0.length cap4_0, .slice A4_1 l4_1.length cap4_1]) (F5 : Cl w0 b5 127 [.func (.func 103) #[] #[pt b2, pt b3, pt b4, pt b5]]) (J2_0_0__2_0_1_0 : Dj [b2_0_0] fp2_0_1_0) (J2_0_0__2_0_1_1 : Dj [b2_0_0] fp2_0_1_1) (J2_0_0__2_0_1 : Dj [b2_0_0] [b2_0_1]) (J2_0_0__2_0_2 : Dj [b2_0_0] [b2_0_2]) (J2_0_0__2_0_3_0 : Dj [b2_0_0] [b2_0_3_0]) (J2_0_0__2_0_3 : Dj [b2_0_0] [b2_0_3]) (J2_0_0__2 : Dj [b2_0_0] [b2]) (J2_0_0__3_0 : Dj [b2_0_0] fp3_0) (J2_0_0__3 : Dj [b2_0_0] [b3]) (J2_0_0__4_0 : Dj [b2_0_0] fp4_0) (J2_0_0__4_1 : Dj [b2_0_0] fp4_1) (J2_0_0__4 : Dj [b2_0_0] [b4]) (J2_0_0__5 : Dj [b2_0_0] [b5]) (J2_0_3_0__2_0_1_0 : Dj [b2_0_3_0] fp2_0_1_0) (J2_0_3_0__2_0_1_1 : Dj [b2_0_3_0] fp2_0_1_1) (J2_0_3_0__2_0_1 : Dj [b2_0_3_0] [b2_0_1]) (J2_0_3_0__2_0_2 : Dj [b2_0_3_0] [b2_0_2]) (J2_0_3_0__2_0_3 : Dj [b2_0_3_0] [b2_0_3]) (J2_0_3_0__2 : Dj [b2_0_3_0] [b2]) (J2_0_3_0__3_0 : Dj [b2_0_3_0] fp3_0) (J2_0_3_0__3 : Dj [b2_0_3_0] [b3]) (J2_0_3_0__4_0 : Dj [b2_0_3_0] fp4_0) (J2_0_3_0__4_1 : Dj [b2_0_3_0] fp4_1) (J2_0_3_0__4 : Dj [b2_0_3_0] [b4]) (J2_0_3_0__5 : Dj [b2_0_3_0] [b5]), Calls Tryd.prog 103 #[ii p0, ii p1, pt b2, pt b3, pt b4, pt b5] w0 fun e w' => e = .returned (.tuple #[]) ∧ Cl w' b2_0_0 3 [ii r.1] ∧ Mp okI kI kI w' b2_0_3_0 r.2 ∧ Chg ([b2_0_0] ++ ([b2_0_3_0] ++ [])) w0 w' := by
 induction n with
 | zero => intro w0 p0 p1 q2_0_0_0 b2_0_0 l2_0_1_0 A2_0_1_0 cap2_0_1_0 fp2_0_1_0 l2_0_1_1 A2_0_1_1 cap2_0_1_1 fp2_0_1_1 b2_0_1 q2_0_2_0 b2_0_2 l2_0_3_0 b2_0_3_0 b2_0_3 b2 l3_0 A3_0 cap3_0 fp3_0 b3 l4_0 A4_0 cap4_0 fp4_0 l4_1 A4_1 cap4_1 fp4_1 b4 b5 r hm F2_0_0 F2_0_1_0 F2_0_1_1 F2_0_1 F2_0_2 F2_0_3_0 F2_0_3 F2 F3_0 F3 F4_0 F4_1 F4 F5 J2_0_0__2_0_1_0 J2_0_0__2_0_1_1 J2_0_0__2_0_1 J2_0_0__2_0_2 J2_0_0__2_0_3_0 J2_0_0__2_0_3 J2_0_0__2 J2_0_0__3_0 J2_0_0__3 J2_0_0__4_0 J2_0_0__4_1 J2_0_0__4 J2_0_0__5 J2_0_3_0__2_0_1_0 J2_0_3_0__2_0_1_1 J2_0_3_0__2_0_1 J2_0_3_0__2_0_2 J2_0_3_0__2_0_3 J2_0_3_0__2 J2_0_3_0__3_0 J2_0_3_0__3 J2_0_3_0__4_0 J2_0_3_0__4_1 J2_0_3_0__4 J2_0_3_0__5; exact nomatch (show (none : Option ((Int) × (List (Int × Int)))) = some r from hm)
 | succ n ih => intro w0 p0 p1 q2_0_0_0 b2_0_0 l2_0_1_0 A2_0_1_0 cap2_0_1_0 fp2_0_1_0 l2_0_1_1 A2_0_1_1 cap2_0_1_1 fp2_0_1_1 b2_0_1 q2_0_2_0 b2_0_2 l2_0_3_0 b2_0_3_0 b2_0_3 b2 l3_0 A3_0 cap3_0 fp3_0 b3 l4_0 A4_0 cap4_0 fp4_0 l4_1 A4_1 cap4_1 fp4_1 b4 b5 r hm F2_0_0 F2_0_1_0 F2_0_1_1 F2_0_1 F2_0_2 F2_0_3_0 F2_0_3 F2 F3_0 F3 F4_0 F4_1 F4 F5 J2_0_0__2_0_1_0 J2_0_0__2_0_1_1 J2_0_0__2_0_1 J2_0_0__2_0_2 J2_0_0__2_0_3_0 J2_0_0__2_0_3 J2_0_0__2 J2_0_0__3_0 J2_0_0__3 J2_0_0__4_0 J2_0_0__4_1 J2_0_0__4 J2_0_0__5 J2_0_3_0__2_0_1_0 J2_0_3_0__2_0_1_1 J2_0_3_0__2_0_1 J2_0_3_0__2_0_2 J2_0_3_0__2_0_3 J2_0_3_0__2 J2_0_3_0__3_0 J2_0_3_0__3 J2_0_3_0__4_0 J2_0_3_0__4_1 J2_0_3_0__4 J2_0_3_0__5; exact c_iOrderFirst1_f_b hR_impl_order_fewest ih hm F2_0_0 F2_0_1_0 F2_0_1_1 F2_0_1 F2_0_2 F2_0_3_0 F2_0_3 F2 F3_0 F3 F4_0 F4_1 F4 F5 J2_0_0__2_0_1_0 J2_0_0__2_0_1_1 J2_0_0__2_0_1 J2_0_0__2_0_2 J2_0_0__2_0_3_0 J2_0_0__2_0_3 J2_0_0__2 J2_0_0__3_0 J2_0_0__3 J2_0_0__4_0 J2_0_0__4_1 J2_0_0__4 J2_0_0__5 J2_0_3_0__2_0_1_0 J2_0_3_0__2_0_1_1 J2_0_3_0__2_0_1 J2_0_3_0__2_0_2 J2_0_3_0__2_0_3 J2_0_3_0__2 J2_0_3_0__3_0 J2_0_3_0__3 J2_0_3_0__4_0 J2_0_3_0__4_1 J2_0_3_0__4 J2_0_3_0__5


set_option maxRecDepth 100000 in
theorem c_iOrderFirst3 {R_impl_order_fewest : (List Int) → (List Int) → (Int) → (List (Int × Int)) → Option ((Int) × (List (Int × Int)))} (hR_impl_order_fewest : ∀ {w0 : World} {l0_0 : List Int} {A0_0 : Option Addr} {cap0_0 : Nat} {fp0_0 : List Nat} {l0_1 : List Int} {A0_1 : Option Addr} {cap0_1 : Nat} {fp0_1 : List Nat} {p1 : Int} {l2 : List (Int × Int)} {b2 : Nat} {r : (Int) × (List (Int × Int))} (hm : R_impl_order_fewest l0_0 l0_1 p1 l2 = some r) (F0_0 : S1 w0 fp0_0 A0_0 l0_0) (F0_1 : S1 w0 fp0_1 A0_1 l0_1) (F2 : Mp okI kI kI w0 b2 l2) (J2__0_0 : Dj [b2] fp0_0) (J2__0_1 : Dj [b2] fp0_1), Calls Tryd.prog 78 #[.agg #[.slice A0_0 l0_0.length cap0_0, .slice A0_1 l0_1.length cap0_1], ii p1, .map (some b2)] w0 fun e w' => e = .returned (ii r.1) ∧ Mp okI kI kI w' b2 r.2 ∧ Chg ([b2] ++ []) w0 w') {w0 : World} {l0_0 : List Int} {A0_0 : Option Addr} {cap0_0 : Nat} {fp0_0 : List Nat} {l0_1 : List Int} {A0_1 : Option Addr} {cap0_1 : Nat} {fp0_1 : List Nat} {p1 : Int} {q2_0_0 : Int} {b2_0 : Nat} {l2_1_0 : List Int} {A2_1_0 : Option Addr} {cap2_1_0 : Nat} {fp2_1_0 : List Nat} {l2_1_1 : List Int} {A2_1_1 : Option Addr} {cap2_1_1 : Nat} {fp2_1_1 : List Nat} {b2_1 : Nat} {q2_2_0 : Int} {b2_2 : Nat} {l2_3_0 : List (Int × Int)} {b2_3_0 : Nat} {b2_3 : Nat} {r : (Int) × (List (Int × Int))} (hm : m_iOrderFirst3  R_impl_order_fewest l0_0 l0_1 p1 q2_0_0 l2_1_0 l2_1_1 q2_2_0 l2_3_0 = some r) (F0_0 : S1 w0 fp0_0 A0_0 l0_0) (F0_1 : S1 w0 fp0_1 A0_1 l0_1) (F2_0 : Cl w0 b2_0 3 [ii q2_0_0]) (F2_1_0 : S1 w0 fp2_1_0 A2_1_0 l2_1_0) (F2_1_1 : S1 w0 fp2_1_1 A2_1_1 l2_1_1) (F2_1 : Cl w0 b2_1 58 [.slice A2_1_0 l2_1_0.length cap2_1_0, .slice A2_1_1 l2_1_1.length cap2_1_1]) (F2_2 : Cl w0 b2_2 3 [ii q2_2_0]) (F2_3_0 : Mp okI kI kI w0 b2_3_0 l2_3_0) (F2_3 : Cl w0 b2_3 105 [.map (some b2_3_0)]) (J2_0__0_0 : Dj [b2_0] fp0_0) (J2_0__0_1 : Dj [b2_0] fp0_1) (J2_0__2_1_0 : Dj [b2_0] fp2_1_0) (J2_0__2_1_1 : Dj [b2_0] fp2_1_1) (J2_0__2_1 : Dj [b2_0] [b2_1]) (J2_0__2_2 : Dj [b2_0] [b2_2]) (J2_0__2_3_0 : Dj [b2_0] [b2_3_0]) (J2_0__2_3 : Dj [b2_0] [b2_3]) (J2_3_0__0_0 : Dj [b2_3_0] fp0_0) (J2_3_0__0_1 : Dj [b2_3_0] fp0_1) (J2_3_0__2_1_0 : Dj [b2_3_0] fp2_1_0) (J2_3_0__2_1_1 : Dj [b2_3_0] fp2_1_1) (J2_3_0__2_1 : Dj [b2_3_0] [b2_1]) (J2_3_0__2_2 : Dj [b2_3_0] [b2_2]) (J2_3_0__2_3 : Dj [b2_3_0] [b2_3]) :
  Calls Tryd.prog 79 #[.agg #[.slice A0_0 l0_0.length cap0_0, .slice A0_1 l0_1.length cap0_1], ii p1, .func (.func 102) #[] #[pt b2_0, pt b2_1, pt b2_2, pt b2_3]] w0 fun e w' => e = .returned (.tuple #[]) ∧ Cl w' b2_0 3 [ii r.1] ∧ Mp okI kI kI w' b2_3_0 r.2 ∧ Chg ([b2_0] ++ ([b2_3_0] ++ [])) w0 w' := by
 have L0_0 := F0_0.low
 have L0_1 := F0_1.low
 have L2_0 := lt1 F2_0.lt
 have L2_1_0 := F2_1_0.low
 have L2_1_1 := F2_1_1.low
 have L2_1 := lt1 F2_1.lt
 have L2_2 := lt1 F2_2.lt
 have L2_3_0 := F2_3_0.low
 have L2_3 := lt1 F2_3.lt
 have hB : Chg ([b2_0] ++ ([b2_3_0] ++ [])) w0 w0 := Chg.refl _ _
 unfold m_iOrderFirst3 at hm
 refine enterE (N := 39) Tryd.func79 (by rfl) Tryd.ntmps79 (by simp) [(0, .agg #[.slice A0_0 l0_0.length cap0_0, .slice A0_1 l0_1.length cap0_1]), (1, ii p1), (2, .func (.func 102) #[] #[pt b2_0, pt b2_1, pt b2_2, pt b2_3])] (by rfl) (by kernel_rfl) (fun a => ?_)
 refine sR <| wS_box (d := 3) (T := 58) (x := .agg #[.slice A0_0 l0_0.length cap0_0, .slice A0_1 l0_1.length cap0_1]) (by kernel_rfl) ?_
 intro b1 w1 G1 F1 hc1
 replace F1 : Cl w1 b1 58 [.slice A0_0 l0_0.length cap0_0, .slice A0_1 l0_1.length cap0_1] := F1
 replace F0_0 := F0_0.c hc1
 replace F0_1 := F0_1.c hc1
 replace F2_0 := F2_0.c hc1
 replace F2_1_0 := F2_1_0.c hc1
 replace F2_1_1 := F2_1_1.c hc1
 replace F2_1 := F2_1.c hc1
 replace F2_2 := F2_2.c hc1
 replace F2_3_0 := F2_3_0.c hc1
 replace F2_3 := F2_3.c hc1
 replace G1 := Nat.le_trans hB.size G1
 replace hB := hB.q hc1
 refine wS_box (d := 5) (T := 108) (x := .func (.func 102) #[] #[pt b2_0, pt b2_1, pt b2_2, pt b2_3]) (by kernel_rfl) ?_
 intro b2 w2 G2 F2 hc2
 replace F2 : Cl w2 b2 108 [.func (.func 102) #[] #[pt b2_0, pt b2_1, pt b2_2, pt b2_3]] := F2
 have D1 := Dj.of (lt1 F1.lt) (low1 G2)
 replace F0_0 := F0_0.c hc2
 replace F0_1 := F0_1.c hc2
 replace F2_0 := F2_0.c hc2
 replace F2_1_0 := F2_1_0.c hc2
 replace F2_1_1 := F2_1_1.c hc2
 replace F2_1 := F2_1.c hc2
 replace F2_2 := F2_2.c hc2
 replace F2_3_0 := F2_3_0.c hc2
 replace F2_3 := F2_3.c hc2
 replace F1 := F1.c hc2
 replace G2 := Nat.le_trans hB.size G2
 replace hB := hB.q hc2
 refine wN <| sR <| wS_bs0 (α := Int) (enc := encI) (d := 9) (t := 56) (T := 3) (by kernel_rfl) el56 ?_
 intro b3 w3 G3 F3 hc3
 have D2 := Dj.of (lt1 F1.lt) (low1 G3)
 have D3 := Dj.of (lt1 F2.lt) (low1 G3)
 replace F0_0 := F0_0.c hc3
 replace F0_1 := F0_1.c hc3
 replace F2_0 := F2_0.c hc3
 replace F2_1_0 := F2_1_0.c hc3
 replace F2_1_1 := F2_1_1.c hc3
 replace F2_1 := F2_1.c hc3
 replace F2_2 := F2_2.c hc3
 replace F2_3_0 := F2_3_0.c hc3
 replace F2_3 := F2_3.c hc3
 replace F1 := F1.c hc3
 replace F2 := F2.c hc3
 replace G3 := Nat.le_trans hB.size G3
 replace G3 := low1 G3
 replace hB := hB.q hc3
 refine wS_alloc (d := 6) (T := 56) (z := .slice none 0 0) (by kernel_rfl) (by kernel_rfl) ?_
 intro b4 w4 G4 F4 hc4
 replace F4 : Cl w4 b4 56 [.slice none 0 0] := F4
 have D4 := Dj.of (lt1 F1.lt) (low1 G4)
 have D5 := Dj.of (lt1 F2.lt) (low1 G4)
 have D6 := Dj.of F3.low (low1 G4)
 replace F0_0 := F0_0.c hc4
 replace F0_1 := F0_1.c hc4
 replace F2_0 := F2_0.c hc4
 replace F2_1_0 := F2_1_0.c hc4
 replace F2_1_1 := F2_1_1.c hc4
 replace F2_1 := F2_1.c hc4
 replace F2_2 := F2_2.c hc4
 replace F2_3_0 := F2_3_0.c hc4
 replace F2_3 := F2_3.c hc4
 replace F1 := F1.c hc4
 replace F2 := F2.c hc4
 replace F3 := F3.c hc4
 replace G4 := Nat.le_trans hB.size G4
 replace hB := hB.q hc4
 refine wS_store (T := 56) (g := b4) (o := 0) (ad := ⟨b4, 0, none⟩) (v := .slice (ad b3) (([] : List Int)).length 0) (vs := [.slice (ad b3) (([] : List Int)).length 0]) (by kernel_rfl) (by rfl) sz56 (by rfl) (by rfl) F4 (bl rfl) ?_
 intro w5 F5 hc5
 replace F0_0 := F0_0.chg hc5 (Dj.of L0_0 (low1 G4))
 replace F0_1 := F0_1.chg hc5 (Dj.of L0_1 (low1 G4))
 replace F2_0 := F2_0.chg hc5 (dj1 (Dj.of L2_0 (low1 G4)))
 replace F2_1_0 := F2_1_0.chg hc5 (Dj.of L2_1_0 (low1 G4))
 replace F2_1_1 := F2_1_1.chg hc5 (Dj.of L2_1_1 (low1 G4))
 replace F2_1 := F2_1.chg hc5 (dj1 (Dj.of L2_1 (low1 G4)))
 replace F2_2 := F2_2.chg hc5 (dj1 (Dj.of L2_2 (low1 G4)))
 replace F2_3_0 := F2_3_0.chg hc5 (Dj.of L2_3_0 (low1 G4))
 replace F2_3 := F2_3.chg hc5 (dj1 (Dj.of L2_3 (low1 G4)))
 replace F1 := F1.chg hc5 (dj1 D4)
 replace F2 := F2.chg hc5 (dj1 D5)
 replace F3 := F3.chg hc5 D6
 replace hB := hB.inS hc5 (inLow (low1 G4))
 replace F5 : Cl w5 b4 56 [.slice (ad b3) (([] : List Int)).length 0] := F5
 clear F4
 refine wN <| cW_seq <| sR <| wP 1 [(10, pt b1)] <| sL 11 ⟨b1, 0, none⟩ (.slice A0_0 l0_0.length cap0_0) vt56 ((F1).cell 0) <| wP 2 [(13, ii 0), (12, ii (l0_0.length : Int))] <| wN ?_
 obtain ⟨r1, hr1, hm⟩ := bindE hm
 have hm1 := hm
 refine cW_cut (fun a' w' => ∃ l1 : List Int, ∃ A1 : Option Addr, ∃ cap1 : Nat, ∃ fp1 : List Nat, l1 = r1 ∧ Fr 39 [(3, pt b1), (5, pt b2), (6, pt b4)] a' ∧ S1 w' fp0_0 A0_0 l0_0 ∧ S1 w' fp0_1 A0_1 l0_1 ∧ Cl w' b2_0 3 [ii q2_0_0] ∧ S1 w' fp2_1_0 A2_1_0 l2_1_0 ∧ S1 w' fp2_1_1 A2_1_1 l2_1_1 ∧ Cl w' b2_1 58 [.slice A2_1_0 l2_1_0.length cap2_1_0, .slice A2_1_1 l2_1_1.length cap2_1_1] ∧ Cl w' b2_2 3 [ii q2_2_0] ∧ Mp okI kI kI w' b2_3_0 l2_3_0 ∧ Cl w' b2_3 105 [.map (some b2_3_0)] ∧ Cl w' b1 58 [.slice A0_0 l0_0.length cap0_0, .slice A0_1 l0_1.length cap0_1] ∧ Cl w' b2 108 [.func (.func 102) #[] #[pt b2_0, pt b2_1, pt b2_2, pt b2_3]] ∧ Cl w' b4 56 [.slice A1 l1.length cap1] ∧ O1 3 w' fp1 A1 cap1 l1 ∧ (∀ x ∈ fp1, w0.heap.size ≤ x) ∧ Dj [b1] fp1 ∧ Dj [b2] fp1 ∧ Dj [b4] fp1 ∧ Chg ([b2_0] ++ ([b2_3_0] ++ [])) w0 w') ?_ ?_
 ·refine cW_block ?_
  refine cW_loop _ (fun (s1 : Int × (List Int)) a' w' => ∃ x1 : Int, ∃ l3 : List Int, ∃ A3 : Option Addr, ∃ cap3 : Nat, ∃ fp2 : List Nat, (x1, l3) = s1 ∧ Fr 39 [(1, ii p1), (3, pt b1), (5, pt b2), (6, pt b4), (12, ii (l0_0.length : Int)), (13, ii x1)] a' ∧ S1 w' fp0_0 A0_0 l0_0 ∧ S1 w' fp0_1 A0_1 l0_1 ∧ Cl w' b2_0 3 [ii q2_0_0] ∧ S1 w' fp2_1_0 A2_1_0 l2_1_0 ∧ S1 w' fp2_1_1 A2_1_1 l2_1_1 ∧ Cl w' b2_1 58 [.slice A2_1_0 l2_1_0.length cap2_1_0, .slice A2_1_1 l2_1_1.length cap2_1_1] ∧ Cl w' b2_2 3 [ii q2_2_0] ∧ Mp okI kI kI w' b2_3_0 l2_3_0 ∧ Cl w' b2_3 105 [.map (some b2_3_0)] ∧ Cl w' b1 58 [.slice A0_0 l0_0.length cap0_0, .slice A0_1 l0_1.length cap0_1] ∧ Cl w' b2 108 [.func (.func 102) #[] #[pt b2_0, pt b2_1, pt b2_2, pt b2_3]] ∧ Cl w' b4 56 [.slice A3 l3.length cap3] ∧ O1 3 w' fp2 A3 cap3 l3 ∧ (∀ x ∈ fp2, w0.heap.size ≤ x) ∧ Dj [b1] fp2 ∧ Dj [b2] fp2 ∧ Dj [b4] fp2 ∧ Chg ([b2_0] ++ ([b2_3_0] ++ [])) w0 w') hr1 (fun hst => ⟨0, ([] : List Int), (ad b3), 0, [b3], rfl, fO hst, F0_0, F0_1, F2_0, F2_1_0, F2_1_1, F2_1, F2_2, F2_3_0, F2_3, F1, F2, F5, F3, G3, D2, D3, (D6).symm, hB⟩) ?_
  rintro _ c1 a' w6 ⟨x1, l3, A3, cap3, fp2, rfl, hF1, F6, F7, F8, F9, F10, F11, F12, F13, F14, F15, F16, F17, F18, G5, D7, D8, D9, hB⟩ hx1
  refine gO hF1 ?_
  have hm := hx1
  unfold m_iOrderFirst3_s1 at hm
  refine sR <| wP 1 [(14, .bool (decide (x1 < ((l0_0.length : Int)))))] <| wN <| cW_seq <| cC (decide (x1 < ((l0_0.length : Int)))) (fun hb1 => ?_) (fun hb1 => ?_)
  ·have hm := condT hb1 hm
   refine cW_skip <| eX_then <| cW_seq <| cW_block ?_
   obtain ⟨s2, hs1, hm⟩ := bindE hm
   refine cW_cut (fun a' w' => ∃ l4 : List Int, ∃ A4 : Option Addr, ∃ cap4 : Nat, ∃ fp3 : List Nat, l4 = s2 ∧ Fr 39 [(1, ii p1), (3, pt b1), (5, pt b2), (6, pt b4), (12, ii (l0_0.length : Int)), (13, ii x1)] a' ∧ S1 w' fp0_0 A0_0 l0_0 ∧ S1 w' fp0_1 A0_1 l0_1 ∧ Cl w' b2_0 3 [ii q2_0_0] ∧ S1 w' fp2_1_0 A2_1_0 l2_1_0 ∧ S1 w' fp2_1_1 A2_1_1 l2_1_1 ∧ Cl w' b2_1 58 [.slice A2_1_0 l2_1_0.length cap2_1_0, .slice A2_1_1 l2_1_1.length cap2_1_1] ∧ Cl w' b2_2 3 [ii q2_2_0] ∧ Mp okI kI kI w' b2_3_0 l2_3_0 ∧ Cl w' b2_3 105 [.map (some b2_3_0)] ∧ Cl w' b1 58 [.slice A0_0 l0_0.length cap0_0, .slice A0_1 l0_1.length cap0_1] ∧ Cl w' b2 108 [.func (.func 102) #[] #[pt b2_0, pt b2_1, pt b2_2, pt b2_3]] ∧ Cl w' b4 56 [.slice A4 l4.length cap4] ∧ O1 3 w' fp3 A4 cap4 l4 ∧ (∀ x ∈ fp3, w0.heap.size ≤ x) ∧ Dj [b1] fp3 ∧ Dj [b2] fp3 ∧ Dj [b4] fp3 ∧ Chg ([b2_0] ++ ([b2_3_0] ++ [])) w0 w') ?_ ?_
   ·have hm := hs1
    refine sR <| wP 2 [(7, ii x1), (15, ii x1)] <| wN <| sR <| wP 2 [(17, ii x1), (16, ii p1)] ?_
    obtain ⟨u1, hu1, hm⟩ := bindE hm
    refine wS_shr (d := 18) (x := p1) (y := x1) (yk := .i64) (by kernel_rfl) (p0E hu1) <| wP 3 [(21, .bool ((andI (shrI p1 x1) 1) == 1)), (20, .bool ((andI (shrI p1 x1) 1) == 1)), (19, ii (andI (shrI p1 x1) 1))] <| wS_bool ((andI (shrI p1 x1) 1) == 1) (fun hb2 => ?_) (fun hb2 => ?_)
    ·have hm := condT hb2 hm
     rewrite [hb2]
     refine wP 1 [(22, .pointer (some ⟨b1, 1, none⟩))] <| sL 23 ⟨b1, 1, none⟩ (.slice A0_1 l0_1.length cap0_1) vt56 ((F15).cell 1) <| wP 1 [(24, ii x1)] ?_
     obtain ⟨x2, hx2, hm⟩ := bindE hm
     refine sI 25 A0_1 l0_1.length cap0_1 .i64 x1 sl56 (F7.is hx2) <| sL 26 (elA A0_1 1 (x1) 0) (ii x2) vt3 (Sl.cell F7 hx2 0 (by rfl)) <| wP 4 [(30, .bool ((andI x2 p1) == 0)), (29, .bool ((andI x2 p1) == 0)), (28, ii (andI x2 p1)), (27, ii p1)] <| wN <| cP [(1, ii p1), (3, pt b1), (5, pt b2), (6, pt b4), (7, ii x1), (12, ii (l0_0.length : Int)), (13, ii x1), (30, .bool ((andI x2 p1) == 0))] (fun a1 => ?_)
     refine cC ((andI x2 p1) == 0) (fun hb3 => ?_) (fun hb3 => ?_)
     ·have hm := condT hb3 hm
      refine cW_region <| sL 31 ⟨b4, 0, none⟩ (.slice A3 l3.length cap3) vt56 ((F17).cell 0) <| wP 1 [(32, ii x1)] <| wS_bs (enc := encI) ([x1] : List Int) [ii x1] (d := 33) (t := 56) (T := 3) (n := 1) (ps := [(0, ii x1)]) (by kernel_rfl) el56 encI_ok (by rfl) (by omega) (by omega) (by kernel_rfl) (by rfl) ?_
      intro b5 w7 G6 F19 hc6
      have D10 := Dj.of (lt1 F15.lt) (low1 G6)
      have D11 := Dj.of (lt1 F16.lt) (low1 G6)
      have D12 := Dj.of (lt1 F17.lt) (low1 G6)
      have D13 := Dj.of F18.low (low1 G6)
      replace F6 := F6.c hc6
      replace F7 := F7.c hc6
      replace F8 := F8.c hc6
      replace F9 := F9.c hc6
      replace F10 := F10.c hc6
      replace F11 := F11.c hc6
      replace F12 := F12.c hc6
      replace F13 := F13.c hc6
      replace F14 := F14.c hc6
      replace F15 := F15.c hc6
      replace F16 := F16.c hc6
      replace F17 := F17.c hc6
      replace F18 := F18.c hc6
      replace G6 := Nat.le_trans hB.size G6
      replace G6 := low1 G6
      replace hB := hB.q hc6
      obtain ⟨_, hk1, hm⟩ := bindE hm
      replace hk1 := apE hk1
      refine wS_append (enc := encI) (l := (l3 : List Int)) (l2 := (([x1] : List Int) : List Int)) (d := 34) (t := 56) (T := 3) (A := A3) (A2 := (ad b5)) (cap := cap3) (cap2 := 1) (by kernel_rfl) el56 encI_ok F18 (F19.sl encI_ok) (by rfl) hk1 ?_
      intro w8 fp4 A5 cap5 F20 hc7 hp1
      have G7 := low_ap G5 hB.size hp1
      have D14 : Dj [b1] fp4 := Dj.ap D7 (lt1 F15.lt) hp1
      have D15 : Dj [b2] fp4 := Dj.ap D8 (lt1 F16.lt) hp1
      have D16 : Dj [b4] fp4 := Dj.ap D9 (lt1 F17.lt) hp1
      have D17 : Dj [b5] fp4 := Dj.ap (D13).symm F19.low hp1
      replace F6 := F6.chg hc7 (Dj.of L0_0 G5)
      replace F7 := F7.chg hc7 (Dj.of L0_1 G5)
      replace F8 := F8.chg hc7 (dj1 (Dj.of L2_0 G5))
      replace F9 := F9.chg hc7 (Dj.of L2_1_0 G5)
      replace F10 := F10.chg hc7 (Dj.of L2_1_1 G5)
      replace F11 := F11.chg hc7 (dj1 (Dj.of L2_1 G5))
      replace F12 := F12.chg hc7 (dj1 (Dj.of L2_2 G5))
      replace F13 := F13.chg hc7 (Dj.of L2_3_0 G5)
      replace F14 := F14.chg hc7 (dj1 (Dj.of L2_3 G5))
      replace F15 := F15.chg hc7 (dj1 D7)
      replace F16 := F16.chg hc7 (dj1 D8)
      replace F17 := F17.chg hc7 (dj1 D9)
      replace F19 := F19.chg hc7 (D13).symm
      replace hB := hB.inS hc7 (inLow G5)
      refine wS_store (T := 56) (g := b4) (o := 0) (ad := ⟨b4, 0, none⟩) (v := .slice A5 (l3 ++ (([x1] : List Int))).length cap5) (vs := [.slice A5 (l3 ++ (([x1] : List Int))).length cap5]) (by kernel_rfl) (by rfl) sz56 (by rfl) (by rfl) F17 (bl rfl) ?_
      intro w9 F21 hc8
      replace F6 := F6.chg hc8 (Dj.of L0_0 (low1 G4))
      replace F7 := F7.chg hc8 (Dj.of L0_1 (low1 G4))
      replace F8 := F8.chg hc8 (dj1 (Dj.of L2_0 (low1 G4)))
      replace F9 := F9.chg hc8 (Dj.of L2_1_0 (low1 G4))
      replace F10 := F10.chg hc8 (Dj.of L2_1_1 (low1 G4))
      replace F11 := F11.chg hc8 (dj1 (Dj.of L2_1 (low1 G4)))
      replace F12 := F12.chg hc8 (dj1 (Dj.of L2_2 (low1 G4)))
      replace F13 := F13.chg hc8 (Dj.of L2_3_0 (low1 G4))
      replace F14 := F14.chg hc8 (dj1 (Dj.of L2_3 (low1 G4)))
      replace F15 := F15.chg hc8 (dj1 D4)
      replace F16 := F16.chg hc8 (dj1 D5)
      replace F19 := F19.chg hc8 (D12).symm
      replace F20 := F20.chg hc8 (D16).symm
      replace hB := hB.inS hc8 (inLow (low1 G4))
      replace F21 : Cl w9 b4 56 [.slice A5 (l3 ++ (([x1] : List Int))).length cap5] := F21
      clear F17
      refine wE ?_
      obtain rfl := someE (x := (l3 ++ (([x1] : List Int)))) hm
      exact eX_J (fun hst => ⟨l3 ++ (([x1] : List Int)), A5, cap5, fp4, rfl, fO hst, F6, F7, F8, F9, F10, F11, F12, F13, F14, F15, F16, F21, F20, G7, D14, D15, D16, hB⟩)
     have hm := condF hb3 hm
     refine cW_skip ?_
     obtain rfl := someE (x := l3) hm
     exact eX_J (fun hst => ⟨l3, A3, cap3, fp2, rfl, fO hst, F6, F7, F8, F9, F10, F11, F12, F13, F14, F15, F16, F17, F18, G5, D7, D8, D9, hB⟩)
    have hm := condF hb2 hm
    rewrite [hb2]
    refine wP 9 [(30, .bool (false)), (29, undef), (28, undef), (27, undef), (26, undef), (25, undef), (24, undef), (23, undef), (22, undef)] <| wN <| cP [(1, ii p1), (3, pt b1), (5, pt b2), (6, pt b4), (7, ii x1), (12, ii (l0_0.length : Int)), (13, ii x1), (30, .bool (false))] (fun a2 => ?_)
    refine cCf <| cW_skip ?_
    obtain rfl := someE (x := l3) hm
    exact eX_J (fun hst => ⟨l3, A3, cap3, fp2, rfl, fO hst, F6, F7, F8, F9, F10, F11, F12, F13, F14, F15, F16, F17, F18, G5, D7, D8, D9, hB⟩)
   rintro a' w10 ⟨l4, A4, cap4, fp3, hJ, hF2, F22, F23, F24, F25, F26, F27, F28, F29, F30, F31, F32, F33, F34, G8, D18, D19, D20, hB⟩
   subst hJ
   refine gX hF2 <| eX_block <| eX_then <| cW_region <| wP 2 [(13, ii (wr (x1 + 1))), (35, ii (wr (x1 + 1)))] <| wE ?_
   obtain rfl := someE (x := (Ctl.next ((wr (x1 + 1), l4)))) hm
   exact eX_next hx1 (fun hst => ⟨wr (x1 + 1), l4, A4, cap4, fp3, rfl, fO hst, F22, F23, F24, F25, F26, F27, F28, F29, F30, F31, F32, F33, F34, G8, D18, D19, D20, hB⟩)
  have hm := condF hb1 hm
  refine cW_exit <| eX_then_exit ?_
  obtain rfl := someE (x := Ctl.out l3) hm
  refine eX_outX hx1 (fun hr2 => ?_)
  replace hr2 := hr2.symm
  subst hr2
  refine eX_block_hit ?_
  exact eX_J (fun hst => ⟨l3, A3, cap3, fp2, rfl, fO hst, F6, F7, F8, F9, F10, F11, F12, F13, F14, F15, F16, F17, F18, G5, D7, D8, D9, hB⟩)
 rintro a' w11 ⟨l1, A1, cap1, fp1, hJ, hF3, F35, F36, F37, F38, F39, F40, F41, F42, F43, F44, F45, F46, F47, G9, D21, D22, D23, hB⟩
 subst hJ
 refine gX hF3 <| eX_then <| sR <| wS_alloc (d := 8) (T := 127) (z := .nilFunc) (by kernel_rfl) (by kernel_rfl) ?_
 intro b6 w12 G10 F48 hc9
 replace F48 : Cl w12 b6 127 [.nilFunc] := F48
 have D24 := Dj.of (lt1 F44.lt) (low1 G10)
 have D25 := Dj.of (lt1 F45.lt) (low1 G10)
 have D26 := Dj.of (lt1 F46.lt) (low1 G10)
 have D27 := Dj.of F47.low (low1 G10)
 replace F35 := F35.c hc9
 replace F36 := F36.c hc9
 replace F37 := F37.c hc9
 replace F38 := F38.c hc9
 replace F39 := F39.c hc9
 replace F40 := F40.c hc9
 replace F41 := F41.c hc9
 replace F42 := F42.c hc9
 replace F43 := F43.c hc9
 replace F44 := F44.c hc9
 replace F45 := F45.c hc9
 replace F46 := F46.c hc9
 replace F47 := F47.c hc9
 replace G10 := Nat.le_trans hB.size G10
 replace hB := hB.q hc9
 refine wN <| sR <| wP 1 [(36, .func (.func 103) #[] #[pt b2, pt b4, pt b1, pt b6])] <| wS_store (T := 127) (g := b6) (o := 0) (ad := ⟨b6, 0, none⟩) (v := .func (.func 103) #[] #[pt b2, pt b4, pt b1, pt b6]) (vs := [.func (.func 103) #[] #[pt b2, pt b4, pt b1, pt b6]]) (by kernel_rfl) (by rfl) sz127 (by rfl) (by rfl) F48 (bl rfl) ?_
 intro w13 F49 hc10
 replace F35 := F35.chg hc10 (Dj.of L0_0 (low1 G10))
 replace F36 := F36.chg hc10 (Dj.of L0_1 (low1 G10))
 replace F37 := F37.chg hc10 (dj1 (Dj.of L2_0 (low1 G10)))
 replace F38 := F38.chg hc10 (Dj.of L2_1_0 (low1 G10))
 replace F39 := F39.chg hc10 (Dj.of L2_1_1 (low1 G10))
 replace F40 := F40.chg hc10 (dj1 (Dj.of L2_1 (low1 G10)))
 replace F41 := F41.chg hc10 (dj1 (Dj.of L2_2 (low1 G10)))
 replace F42 := F42.chg hc10 (Dj.of L2_3_0 (low1 G10))
 replace F43 := F43.chg hc10 (dj1 (Dj.of L2_3 (low1 G10)))
 replace F44 := F44.chg hc10 (dj1 D24)
 replace F45 := F45.chg hc10 (dj1 D25)
 replace F46 := F46.chg hc10 (dj1 D26)
 replace F47 := F47.chg hc10 D27
 replace hB := hB.inS hc10 (inLow (low1 G10))
 replace F49 : Cl w13 b6 127 [.func (.func 103) #[] #[pt b2, pt b4, pt b1, pt b6]] := F49
 clear F48
 refine wN <| cW_region <| sL 37 ⟨b6, 0, none⟩ (.func (.func 103) #[] #[pt b2, pt b4, pt b1, pt b6]) vt127 ((F49).cell 0) ?_
 obtain ⟨y1, hy1, hm⟩ := bindE hm
 refine sC 38 [ii 0, ii 0, pt b2, pt b4, pt b1, pt b6] ent103 (c_iOrderFirst1_f hR_impl_order_fewest 64 hy1 F37 F38 F39 F40 F41 F42 F43 F45 (F47.sl encI_ok) F46 F35 F36 F44 F49 J2_0__2_1_0 J2_0__2_1_1 J2_0__2_1 J2_0__2_2 J2_0__2_3_0 J2_0__2_3 (Dj.of L2_0 (low1 G2)) (Dj.of L2_0 G9) (Dj.of L2_0 (low1 G4)) J2_0__0_0 J2_0__0_1 (Dj.of L2_0 (low1 G1)) (Dj.of L2_0 (low1 G10)) J2_3_0__2_1_0 J2_3_0__2_1_1 J2_3_0__2_1 J2_3_0__2_2 J2_3_0__2_3 (Dj.of L2_3_0 (low1 G2)) (Dj.of L2_3_0 G9) (Dj.of L2_3_0 (low1 G4)) J2_3_0__0_0 J2_3_0__0_1 (Dj.of L2_3_0 (low1 G1)) (Dj.of L2_3_0 (low1 G10))) ?_
 rintro _ w14 ⟨rfl, F50, F51, hc11⟩
 replace F35 := F35.chg hc11 (Dj.app (J2_0__0_0).symm (Dj.app (J2_3_0__0_0).symm Dj.nil))
 replace F36 := F36.chg hc11 (Dj.app (J2_0__0_1).symm (Dj.app (J2_3_0__0_1).symm Dj.nil))
 replace F38 := F38.chg hc11 (Dj.app (J2_0__2_1_0).symm (Dj.app (J2_3_0__2_1_0).symm Dj.nil))
 replace F39 := F39.chg hc11 (Dj.app (J2_0__2_1_1).symm (Dj.app (J2_3_0__2_1_1).symm Dj.nil))
 replace F40 := F40.chg hc11 (dj1 (Dj.app (J2_0__2_1).symm (Dj.app (J2_3_0__2_1).symm Dj.nil)))
 replace F41 := F41.chg hc11 (dj1 (Dj.app (J2_0__2_2).symm (Dj.app (J2_3_0__2_2).symm Dj.nil)))
 replace F43 := F43.chg hc11 (dj1 (Dj.app (J2_0__2_3).symm (Dj.app (J2_3_0__2_3).symm Dj.nil)))
 replace F44 := F44.chg hc11 (dj1 (Dj.app (Dj.of L2_0 (low1 G1)).symm (Dj.app (Dj.of L2_3_0 (low1 G1)).symm Dj.nil)))
 replace F45 := F45.chg hc11 (dj1 (Dj.app (Dj.of L2_0 (low1 G2)).symm (Dj.app (Dj.of L2_3_0 (low1 G2)).symm Dj.nil)))
 replace F46 := F46.chg hc11 (dj1 (Dj.app (Dj.of L2_0 (low1 G4)).symm (Dj.app (Dj.of L2_3_0 (low1 G4)).symm Dj.nil)))
 replace F47 := F47.chg hc11 (Dj.app (Dj.of L2_0 G9).symm (Dj.app (Dj.of L2_3_0 G9).symm Dj.nil))
 replace F49 := F49.chg hc11 (dj1 (Dj.app (Dj.of L2_0 (low1 G10)).symm (Dj.app (Dj.of L2_3_0 (low1 G10)).symm Dj.nil)))
 replace hB := hB.inS hc11 (inApp (inMem (fun x hx => (List.mem_append_left _ hx))) (inApp (inMem (fun x hx => (List.mem_append_right _ (List.mem_append_left _ hx)))) inNil))
 clear F37
 clear F42
 refine ⟨.tuple #[], rfl, ?_⟩
 refine wE ?_
 obtain rfl := someE (x := ((y1.1, y1.2))) hm
 refine eX_fall (vs := []) [] (by rfl) trivial ?_
 exact ⟨rfl, F50, F51, hB⟩

set_option maxRecDepth 100000 in
theorem c_iOrderFewes_b {R : (List Int) → (List Int) → (Int) → (List (Int × Int)) → Option ((Int) × (List (Int × Int)))} (hR : ∀ {w0 : World} {l0_0 : List Int} {A0_0 : Option Addr} {cap0_0 : Nat} {fp0_0 : List Nat} {l0_1 : List Int} {A0_1 : Option Addr} {cap0_1 : Nat} {fp0_1 : List Nat} {p1 : Int} {l2 : List (Int × Int)} {b2 : Nat} {r : (Int) × (List (Int × Int))} (hm : R l0_0 l0_1 p1 l2 = some r) (F0_0 : S1 w0 fp0_0 A0_0 l0_0) (F0_1 : S1 w0 fp0_1 A0_1 l0_1) (F2 : Mp okI kI kI w0 b2 l2) (J2__0_0 : Dj [b2] fp0_0) (J2__0_1 : Dj [b2] fp0_1), Calls Tryd.prog 78 #[.agg #[.slice A0_0 l0_0.length cap0_0, .slice A0_1 l0_1.length cap0_1], ii p1, .map (some b2)] w0 fun e w' => e = .returned (ii r.1) ∧ Mp okI kI kI w' b2 r.2 ∧ Chg ([b2] ++ []) w0 w') {w0 : World} {l0_0 : List Int} {A0_0 : Option Addr} {cap0_0 : Nat} {fp0_0 : List Nat} {l0_1 : List Int} {A0_1 : Option Addr} {cap0_1 : Nat} {fp0_1 : List Nat} {p1 : Int} {l2 : List (Int × Int)} {b2 : Nat} {r : (Int) × (List (Int × Int))} (hm : m_iOrderFewes_b R l0_0 l0_1 p1 l2 = some r) (F0_0 : S1 w0 fp0_0 A0_0 l0_0) (F0_1 : S1 w0 fp0_1 A0_1 l0_1) (F2 : Mp okI kI kI w0 b2 l2) (J2__0_0 : Dj [b2] fp0_0) (J2__0_1 : Dj [b2] fp0_1) :
  Calls Tryd.prog 78 #[.agg #[.slice A0_0 l0_0.length cap0_0, .slice A0_1 l0_1.length cap0_1], ii p1, .map (some b2)] w0 fun e w' => e = .returned (ii r.1) ∧ Mp okI kI kI w' b2 r.2 ∧ Chg ([b2] ++ []) w0 w' := by
 have L0_0 := F0_0.low
 have L0_1 := F0_1.low
 have L2 := F2.low
 have hB : Chg ([b2] ++ []) w0 w0 := Chg.refl _ _
 unfold m_iOrderFewes_b at hm
 refine enterE (N := 32) Tryd.func78 (by rfl) Tryd.ntmps78 (by simp) [(0, .agg #[.slice A0_0 l0_0.length cap0_0, .slice A0_1 l0_1.length cap0_1]), (1, ii p1), (2, .map (some b2))] (by rfl) (by kernel_rfl) (fun a => ?_)
 refine sR <| wS_box (d := 3) (T := 58) (x := .agg #[.slice A0_0 l0_0.length cap0_0, .slice A0_1 l0_1.length cap0_1]) (by kernel_rfl) ?_
 intro b1 w1 G1 F1 hc1
 replace F1 : Cl w1 b1 58 [.slice A0_0 l0_0.length cap0_0, .slice A0_1 l0_1.length cap0_1] := F1
 replace F0_0 := F0_0.c hc1
 replace F0_1 := F0_1.c hc1
 replace F2 := F2.c hc1
 replace G1 := Nat.le_trans hB.size G1
 replace hB := hB.q hc1
 refine wS_box (d := 4) (T := 3) (x := ii p1) (by kernel_rfl) ?_
 intro b3 w2 G2 F3 hc2
 replace F3 : Cl w2 b3 3 [ii p1] := F3
 have D1 := Dj.of (lt1 F1.lt) (low1 G2)
 replace F0_0 := F0_0.c hc2
 replace F0_1 := F0_1.c hc2
 replace F2 := F2.c hc2
 replace F1 := F1.c hc2
 replace G2 := Nat.le_trans hB.size G2
 replace hB := hB.q hc2
 refine wS_box (d := 5) (T := 105) (x := .map (some b2)) (by kernel_rfl) ?_
 intro b4 w3 G3 F4 hc3
 replace F4 : Cl w3 b4 105 [.map (some b2)] := F4
 have D2 := Dj.of (lt1 F1.lt) (low1 G3)
 have D3 := Dj.of (lt1 F3.lt) (low1 G3)
 replace F0_0 := F0_0.c hc3
 replace F0_1 := F0_1.c hc3
 replace F2 := F2.c hc3
 replace F1 := F1.c hc3
 replace F3 := F3.c hc3
 replace G3 := Nat.le_trans hB.size G3
 replace hB := hB.q hc3
 refine wP 1 [(6, ii 0)] <| wN <| cW_seq <| sR <| sL 10 ⟨b3, 0, none⟩ (ii p1) vt3 ((F3).cell 0) <| wP 1 [(11, .bool (p1 == 0))] <| wN <| cC (p1 == 0) (fun hb1 => ?_) (fun hb1 => ?_)
 ·have hm := condT hb1 hm
  refine sR <| wP 1 [(6, ii 0)] <| wN <| cW_ret <| eX_then_ret ?_
  obtain rfl := someE (x := ((0, l2))) hm
  refine rA (ii 0) 6 ?_
  exact ⟨rfl, F2, hB⟩
 have hm := condF hb1 hm
 refine cW_skip <| eX_then <| cW_seq <| sR <| sL 13 ⟨b4, 0, none⟩ (.map (some b2)) vt105 ((F4).cell 0) <| sL 14 ⟨b3, 0, none⟩ (ii p1) vt3 ((F3).cell 0) ?_
 obtain ⟨_, hk1, hm⟩ := bindE hm
 refine wS_lookOk (k := p1) (d := 15) (T := 105) (by kernel_rfl) rfl mk105 mp105 F2 (mpE hk1) <| wP 5 [(8, .bool ((mget l2 p1).isSome)), (7, ii ((mget l2 p1).getD 0)), (17, .bool ((mget l2 p1).isSome)), (16, ii ((mget l2 p1).getD 0)), (12, .tuple #[ii ((mget l2 p1).getD 0), .bool ((mget l2 p1).isSome)])] <| wN <| sR <| wP 1 [(18, .bool ((mget l2 p1).isSome))] <| wN <| cC ((mget l2 p1).isSome) (fun hb2 => ?_) (fun hb2 => ?_)
 ·have hm := condT hb2 hm
  refine sR <| wP 2 [(6, ii ((mget l2 p1).getD 0)), (19, ii ((mget l2 p1).getD 0))] <| wN <| cW_ret <| eX_then_ret ?_
  obtain rfl := someE (x := (((mget l2 p1).getD 0, l2))) hm
  refine rA (ii ((mget l2 p1).getD 0)) 6 ?_
  exact ⟨rfl, F2, hB⟩
 have hm := condF hb2 hm
 refine cW_skip <| eX_then <| sR <| wP 1 [(20, pt b1)] <| sL 21 ⟨b1, 0, none⟩ (.slice A0_0 l0_0.length cap0_0) vt56 ((F1).cell 0) <| wP 2 [(23, ii (wr (((l0_0.length : Int)) + 1))), (22, ii (l0_0.length : Int))] <| wS_alloc (d := 9) (T := 3) (z := ii 0) (by kernel_rfl) (by kernel_rfl) ?_
 intro b5 w4 G4 F5 hc4
 replace F5 : Cl w4 b5 3 [ii 0] := F5
 have D4 := Dj.of (lt1 F1.lt) (low1 G4)
 have D5 := Dj.of (lt1 F3.lt) (low1 G4)
 have D6 := Dj.of (lt1 F4.lt) (low1 G4)
 replace F0_0 := F0_0.c hc4
 replace F0_1 := F0_1.c hc4
 replace F2 := F2.c hc4
 replace F1 := F1.c hc4
 replace F3 := F3.c hc4
 replace F4 := F4.c hc4
 replace G4 := Nat.le_trans hB.size G4
 replace hB := hB.q hc4
 refine wS_store (T := 3) (g := b5) (o := 0) (ad := ⟨b5, 0, none⟩) (v := ii (wr (((l0_0.length : Int)) + 1))) (vs := [ii (wr (((l0_0.length : Int)) + 1))]) (by kernel_rfl) (by rfl) sz3 (by rfl) (by rfl) F5 (bl rfl) ?_
 intro w5 F6 hc5
 replace F0_0 := F0_0.chg hc5 (Dj.of L0_0 (low1 G4))
 replace F0_1 := F0_1.chg hc5 (Dj.of L0_1 (low1 G4))
 replace F2 := F2.chg hc5 (Dj.of L2 (low1 G4))
 replace F1 := F1.chg hc5 (dj1 D4)
 replace F3 := F3.chg hc5 (dj1 D5)
 replace F4 := F4.chg hc5 (dj1 D6)
 replace hB := hB.inS hc5 (inLow (low1 G4))
 replace F6 : Cl w5 b5 3 [ii (wr (((l0_0.length : Int)) + 1))] := F6
 clear F5
 refine wN <| sR <| wS_loadA (d := 24) (T := 58) (ad := ⟨b1, 0, none⟩) (vs := [.slice A0_0 l0_0.length cap0_0, .slice A0_1 l0_1.length cap0_1]) (by kernel_rfl) vt58 (fun i u hu => box_cells F1 0 hu (by rfl)) ?_
 refine sL 25 ⟨b3, 0, none⟩ (ii p1) vt3 ((F3).cell 0) <| wP 1 [(26, .func (.func 102) #[] #[pt b5, pt b1, pt b3, pt b4])] ?_
 obtain ⟨y1, hy1, hm⟩ := bindE hm
 refine sC 27 [.agg #[.slice A0_0 l0_0.length cap0_0, .slice A0_1 l0_1.length cap0_1], ii p1, .func (.func 102) #[] #[pt b5, pt b1, pt b3, pt b4]] ent79 (c_iOrderFirst3 hR hy1 F0_0 F0_1 F6 F0_0 F0_1 F1 F3 F2 F4 (Dj.of L0_0 (low1 G4)).symm (Dj.of L0_1 (low1 G4)).symm (Dj.of L0_0 (low1 G4)).symm (Dj.of L0_1 (low1 G4)).symm (D4).symm (D5).symm (Dj.of L2 (low1 G4)).symm (D6).symm J2__0_0 J2__0_1 J2__0_0 J2__0_1 (Dj.of L2 (low1 G1)) (Dj.of L2 (low1 G2)) (Dj.of L2 (low1 G3))) ?_
 rintro _ w6 ⟨rfl, F7, F8, hc6⟩
 replace F0_0 := F0_0.chg hc6 (Dj.app (Dj.of L0_0 (low1 G4)) (Dj.app (J2__0_0).symm Dj.nil))
 replace F0_1 := F0_1.chg hc6 (Dj.app (Dj.of L0_1 (low1 G4)) (Dj.app (J2__0_1).symm Dj.nil))
 replace F1 := F1.chg hc6 (dj1 (Dj.app D4 (Dj.app (Dj.of L2 (low1 G1)).symm Dj.nil)))
 replace F3 := F3.chg hc6 (dj1 (Dj.app D5 (Dj.app (Dj.of L2 (low1 G2)).symm Dj.nil)))
 replace F4 := F4.chg hc6 (dj1 (Dj.app D6 (Dj.app (Dj.of L2 (low1 G3)).symm Dj.nil)))
 replace hB := hB.inS hc6 (inApp (inLow (low1 G4)) (inApp (inMem (fun x hx => (List.mem_append_left _ hx))) inNil))
 clear F6
 clear F2
 refine ⟨.tuple #[], rfl, ?_⟩
 refine wN <| cP [(4, pt b3), (5, pt b4), (9, pt b5)] (fun a1 => ?_)
 refine sR <| sL 28 ⟨b4, 0, none⟩ (.map (some b2)) vt105 ((F4).cell 0) <| sL 29 ⟨b3, 0, none⟩ (ii p1) vt3 ((F3).cell 0) <| sL 30 ⟨b5, 0, none⟩ (ii y1.1) vt3 ((F7).cell 0) ?_
 obtain ⟨_, hk2, hm⟩ := bindE hm
 refine wS_mup (k := p1) (x := y1.1) (T := 105) (by kernel_rfl) rfl rfl mk105 mp105 F8 (mpE hk2) ?_
 intro w7 F9 hc7
 replace F0_0 := F0_0.chg hc7 (J2__0_0).symm
 replace F0_1 := F0_1.chg hc7 (J2__0_1).symm
 replace F1 := F1.chg hc7 (dj1 (Dj.of L2 (low1 G1)).symm)
 replace F3 := F3.chg hc7 (dj1 (Dj.of L2 (low1 G2)).symm)
 replace F4 := F4.chg hc7 (dj1 (Dj.of L2 (low1 G3)).symm)
 replace F7 := F7.chg hc7 (dj1 (Dj.of L2 (low1 G4)).symm)
 replace hB := hB.inS hc7 (inMem (fun x hx => (List.mem_append_left _ hx)))
 clear F8
 refine wN <| sR <| sL 31 ⟨b5, 0, none⟩ (ii y1.1) vt3 ((F7).cell 0) <| wP 1 [(6, ii y1.1)] <| wN <| cW_ret ?_
 obtain rfl := someE (x := ((y1.1, mup y1.2 p1 y1.1))) hm
 refine rA (ii y1.1) 6 ?_
 exact ⟨rfl, F9, hB⟩
set_option maxRecDepth 100000 in
theorem c_iOrderFewes (n : Nat) : ∀ {w0 l0_0 A0_0 cap0_0 fp0_0 l0_1 A0_1 cap0_1 fp0_1 p1} {l2 : List (Int × Int)} {b2 : Nat} {r : (Int) × (List (Int × Int))} (hm : m_iOrderFewes n l0_0 l0_1 p1 l2 = some r) (F0_0 : S1 w0 fp0_0 A0_0 l0_0) (F0_1 : S1 w0 fp0_1 A0_1 l0_1) (F2 : Mp okI kI kI w0 b2 l2) (J2__0_0 : Dj [b2] fp0_0) (J2__0_1 : Dj [b2] fp0_1), Calls Tryd.prog 78 #[.agg #[.slice A0_0 l0_0.length cap0_0, .slice A0_1 l0_1.length cap0_1], ii p1, .map (some b2)] w0 fun e w' => e = .returned (ii r.1) ∧ Mp okI kI kI w' b2 r.2 ∧ Chg ([b2] ++ []) w0 w' := by
 induction n with
 | zero => intro w0 l0_0 A0_0 cap0_0 fp0_0 l0_1 A0_1 cap0_1 fp0_1 p1 l2 b2 r hm F0_0 F0_1 F2 J2__0_0 J2__0_1; exact nomatch (show (none : Option ((Int) × (List (Int × Int)))) = some r from hm)
 | succ n ih => intro w0 l0_0 A0_0 cap0_0 fp0_0 l0_1 A0_1 cap0_1 fp0_1 p1 l2 b2 r hm F0_0 F0_1 F2 J2__0_0 J2__0_1; exact c_iOrderFewes_b ih hm F0_0 F0_1 F2 J2__0_0 J2__0_1


set_option maxRecDepth 100000 in
theorem c_iOrderBest1 {w0 p0 q1_0 b1 l2_0 A2_0 cap2_0 fp2_0 l2_1 A2_1 cap2_1 fp2_1 b2 q3_0 b3} {l4_0 : List (Int × Int)} {b4_0 : Nat} {b4 : Nat} {q5_0 : Int} {b5 : Nat} {r : (Int) × (List (Int × Int))} (hm : m_iOrderBest1 p0 q1_0 l2_0 l2_1 q3_0 l4_0 q5_0 = some r) (F1 : Cl w0 b1 3 [ii q1_0]) (F2_0 : S1 w0 fp2_0 A2_0 l2_0) (F2_1 : S1 w0 fp2_1 A2_1 l2_1) (F2 : Cl w0 b2 58 [.slice A2_0 l2_0.length cap2_0, .slice A2_1 l2_1.length cap2_1]) (F3 : Cl w0 b3 3 [ii q3_0]) (F4_0 : Mp okI kI kI w0 b4_0 l4_0) (F4 : Cl w0 b4 105 [.map (some b4_0)]) (F5 : Cl w0 b5 3 [ii q5_0]) (J1__2_0 : Dj [b1] fp2_0) (J1__2_1 : Dj [b1] fp2_1) (J1__2 : Dj [b1] [b2]) (J1__3 : Dj [b1] [b3]) (J1__4_0 : Dj [b1] [b4_0]) (J1__4 : Dj [b1] [b4]) (J1__5 : Dj [b1] [b5]) (J4_0__2_0 : Dj [b4_0] fp2_0) (J4_0__2_1 : Dj [b4_0] fp2_1) (J4_0__2 : Dj [b4_0] [b2]) (J4_0__3 : Dj [b4_0] [b3]) (J4_0__4 : Dj [b4_0] [b4]) (J4_0__5 : Dj [b4_0] [b5]) :
  Calls Tryd.prog 80 #[ii p0, pt b1, pt b2, pt b3, pt b4, pt b5] w0 fun e w' => e = .returned (.tuple #[]) ∧ Cl w' b1 3 [ii r.1] ∧ Mp okI kI kI w' b4_0 r.2 ∧ Chg ([b1] ++ ([b4_0] ++ [])) w0 w' := by
 have L1 := lt1 F1.lt
 have L2_0 := F2_0.low
 have L2_1 := F2_1.low
 have L2 := lt1 F2.lt
 have L3 := lt1 F3.lt
 have L4_0 := F4_0.low
 have L4 := lt1 F4.lt
 have L5 := lt1 F5.lt
 have hB : Chg ([b1] ++ ([b4_0] ++ [])) w0 w0 := Chg.refl _ _
 unfold m_iOrderBest1 at hm
 refine enterE (N := 20) Tryd.func80 (by rfl) Tryd.ntmps80 (by simp) [(0, ii p0), (1, pt b1), (2, pt b2), (3, pt b3), (4, pt b4), (5, pt b5)] (by rfl) (by kernel_rfl) (fun a => ?_)
 obtain ⟨s1, hs1, hm⟩ := bindE hm
 refine cW_cut (fun a' w' => ∃ x1 : Int, ∃ l1 : List (Int × Int), (x1, l1) = s1 ∧ Fr 20 [] a' ∧ Cl w' b1 3 [ii x1] ∧ Mp okI kI kI w' b4_0 l1 ∧ Chg ([b1] ++ ([b4_0] ++ [])) w0 w') ?_ ?_
 ·have hm := hs1
  refine cW_seq <| cW_drawnTail [b4_0] 10 (by kernel_rfl) (by kernel_rfl) (fun w1 hc1 => ?_)
  replace F1 := F1.c hc1
  replace F2_0 := F2_0.c hc1
  replace F2_1 := F2_1.c hc1
  replace F2 := F2.c hc1
  replace F3 := F3.c hc1
  replace F4_0 := F4_0.c hc1
  replace F4 := F4.c hc1
  replace F5 := F5.c hc1
  replace hB := hB.q hc1
  have hS := Chg.refl [b4_0] w1
  have Z1 := F1
  have Z2 := F2_0
  have Z3 := F2_1
  have Z4 := F2
  have Z5 := F3
  have Z6 := F4_0
  have Z7 := F4
  have Z8 := F5
  refine hL 0 7 ⟨b1, 0, none⟩ (ii q1_0) vt3 (fun W hW => (Z1.chg hW (dj1 J1__4_0)).cell 0) ?_
  refine hT [1, 2] [(9, .bool (q1_0 == 0)), (8, .bool (q1_0 == 0))] <| wH_bool (q1_0 == 0) (fun hb1 => ?_) (fun hb1 => ?_)
  ·have hm := condT hb1 hm
   rewrite [hb1]
   refine wH_loadA (i := 3) (d := 10) (T := 58) (ad := ⟨b2, 0, none⟩) (vs := [.slice A2_0 l2_0.length cap2_0, .slice A2_1 l2_1.length cap2_1]) (by kernel_rfl) (qT (qT (qT qZ))) (by kernel_rfl) (by kernel_rfl) vt58 (fun W hW i u hu => box_cells (Z4.chg hW (dj1 (J4_0__2).symm)) 0 hu (by rfl)) ?_
   refine hL 4 11 ⟨b3, 0, none⟩ (ii q3_0) vt3 (fun W hW => (Z5.chg hW (dj1 (J4_0__3).symm)).cell 0) ?_
   refine hT [5, 6] [(13, ii (andNI q3_0 p0)), (12, ii p0)] <| hL 7 14 ⟨b4, 0, none⟩ (.map (some b4_0)) vt105 (fun W hW => (Z7.chg hW (dj1 (J4_0__4).symm)).cell 0) ?_
   refine hL 9 16 ⟨b5, 0, none⟩ (ii q5_0) vt3 (fun W hW => (Z8.chg hW (dj1 (J4_0__5).symm)).cell 0) ?_
   refine wH_all [8] (by rfl) (by kernel_rfl) (by simp) ⟨⟨by kernel_rfl, ?_⟩, trivial⟩
   obtain ⟨y1, hy1, hm⟩ := bindE hm
   refine sC 15 [.agg #[.slice A2_0 l2_0.length cap2_0, .slice A2_1 l2_1.length cap2_1], ii (andNI q3_0 p0), .map (some b4_0)] ent78 (c_iOrderFewes 64 hy1 F2_0 F2_1 F4_0 J4_0__2_0 J4_0__2_1) ?_
   rintro _ w2 ⟨rfl, F6, hc2⟩
   replace F1 := F1.chg hc2 (dj1 (Dj.app J1__4_0 Dj.nil))
   replace F2_0 := F2_0.chg hc2 (Dj.app (J4_0__2_0).symm Dj.nil)
   replace F2_1 := F2_1.chg hc2 (Dj.app (J4_0__2_1).symm Dj.nil)
   replace F2 := F2.chg hc2 (dj1 (Dj.app (J4_0__2).symm Dj.nil))
   replace F3 := F3.chg hc2 (dj1 (Dj.app (J4_0__3).symm Dj.nil))
   replace F4 := F4.chg hc2 (dj1 (Dj.app (J4_0__4).symm Dj.nil))
   replace F5 := F5.chg hc2 (dj1 (Dj.app (J4_0__5).symm Dj.nil))
   have hSz := hS
   replace hS := hS.trans (hc2.more (fun x hx => by simpa using hx))
   replace hB := hB.inS hc2 (inApp (inMem (fun x hx => (List.mem_append_right _ (List.mem_append_left _ hx)))) inNil)
   clear F4_0
   refine ⟨ii y1.1, rfl, ?_⟩
   refine wS_end (by kernel_rfl) <| eX_KH hS <| wD <| eX_tail <| wP 2 [(18, .bool (y1.1 == q5_0)), (17, .bool (y1.1 == q5_0))] <| wN <| cC (y1.1 == q5_0) (fun hb2 => ?_) (fun hb2 => ?_)
   ·have hm := condT hb2 hm
    refine cW_region <| wP 1 [(19, ii p0)] <| wS_store (T := 3) (g := b1) (o := 0) (ad := ⟨b1, 0, none⟩) (v := ii p0) (vs := [ii p0]) (by kernel_rfl) (by rfl) sz3 (by rfl) (by rfl) F1 (bl rfl) ?_
    intro w3 F7 hc3
    replace F2_0 := F2_0.chg hc3 (J1__2_0).symm
    replace F2_1 := F2_1.chg hc3 (J1__2_1).symm
    replace F2 := F2.chg hc3 (dj1 (J1__2).symm)
    replace F3 := F3.chg hc3 (dj1 (J1__3).symm)
    replace F6 := F6.chg hc3 (J1__4_0).symm
    replace F4 := F4.chg hc3 (dj1 (J1__4).symm)
    replace F5 := F5.chg hc3 (dj1 (J1__5).symm)
    replace hB := hB.inS hc3 (inMem (fun x hx => (List.mem_append_left _ hx)))
    replace F7 : Cl w3 b1 3 [ii p0] := F7
    clear F1
    refine wE ?_
    obtain rfl := someE (x := ((p0, y1.2))) hm
    exact eX_J (fun hst => ⟨p0, y1.2, rfl, fO hst, F7, F6, hB⟩)
   have hm := condF hb2 hm
   refine cW_skip ?_
   obtain rfl := someE (x := ((q1_0, y1.2))) hm
   exact eX_J (fun hst => ⟨q1_0, y1.2, rfl, fO hst, F1, F6, hB⟩)
  have hm := condF hb1 hm
  rewrite [hb1]
  refine hT [3, 4, 5, 6, 7, 8, 9] [(16, undef), (15, undef), (14, undef), (13, undef), (12, undef), (11, undef), (10, undef)] <| wD <| eX_tail <| wP 2 [(18, .bool (false)), (17, undef)] <| wN <| cCf <| cW_skip ?_
  obtain rfl := someE (x := ((q1_0, l4_0))) hm
  exact eX_J (fun hst => ⟨q1_0, l4_0, rfl, fO hst, F1, F4_0, hB⟩)
 rintro a' w4 ⟨x1, l1, hJ, hF1, F8, F9, hB⟩
 subst hJ
 refine gX hF1 ?_
 obtain rfl := someE (x := ((x1, l1))) hm
 refine eX_fall (vs := []) [] (by rfl) trivial ?_
 exact ⟨rfl, F8, F9, hB⟩

end Go.Proofs.YtbfjekmefcpkmaaDoor
