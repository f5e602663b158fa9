/- Printed walks: spec.l03Fewest, spec.l00Max, spec.l00Min, spec.l03Pieces, spec.l03OfPieces, spec.FewestWithDoglegs, impl.FewestWithDoglegs$1, (*impl.Channel).pieces. -/
import Derived.Test.YtbfjekmefcpkmaaDoorProg
import Derived.Test.YtbfjekmefcpkmaaDoorWDg03
set_option linter.unusedSimpArgs false
set_option linter.unusedVariables false
namespace Go.Proofs.YtbfjekmefcpkmaaDoor
open Go.RowKit
attribute [local irreducible] wS cW eX wH

theorem ent55 : Ent Tryd.prog 55 := fun _ => by kernel_rfl
theorem ent60 : Ent Tryd.prog 60 := fun _ => by kernel_rfl
theorem ent64 : Ent Tryd.prog 64 := fun _ => by kernel_rfl
theorem ent69 : Ent Tryd.prog 69 := fun _ => by kernel_rfl
theorem ent96 : Ent Tryd.prog 96 := fun _ => by kernel_rfl
theorem ent97 : Ent Tryd.prog 97 := fun _ => by kernel_rfl
theorem ent98 : Ent Tryd.prog 98 := fun _ => by kernel_rfl
theorem ent99 : Ent Tryd.prog 99 := fun _ => by kernel_rfl
theorem ent100 : Ent Tryd.prog 100 := fun _ => by kernel_rfl
theorem el92 : ElTy Tryd.prog 92 120 1 (.slice none 0 0) := ElTy.mk' Tryd.underlying92 (by kernel_rfl) (by rfl)
theorem el120 : ElTy Tryd.prog 120 4 1 (.bool (false)) := ElTy.mk' Tryd.underlying120 (by kernel_rfl) (by rfl)
theorem sz4 : pureRun Tryd.prog (sizeOf 4) = some 1 := by kernel_rfl
theorem sz92 : pureRun Tryd.prog (sizeOf 92) = some 1 := by kernel_rfl

set_option maxRecDepth 100000 in
/-- spec.l03Fewest -/
theorem c_spec_l03Fewest_bspecl03Things {w0 : World} {l0_0 : List Int} {A0_0 : Option Addr} {cap0_0 : Nat} {fp0_0 : List Nat} {l0_1 : List (List Bool)} {A0_1 : Option Addr} {cap0_1 : Nat} {fp0_1 : List Nat} {l0_2 : List (List Bool)} {A0_2 : Option Addr} {cap0_2 : Nat} {fp0_2 : List Nat} {b0 : Nat} {r : (List (List Int)) × Bool} (hm : m_spec_l03Fewest_bspecl03Things l0_0 l0_1 l0_2 = some r) (F0_0 : Sl 1 encI w0 fp0_0 A0_0 l0_0) (F0_1 : SlR 1 encB w0 fp0_1 A0_1 l0_1) (F0_2 : SlR 1 encB w0 fp0_2 A0_2 l0_2) (F0 : Cl w0 b0 94 [.slice A0_0 l0_0.length cap0_0, .slice A0_1 l0_1.length cap0_1, .slice A0_2 l0_2.length cap0_2]) :
  Calls Tryd.prog 64 #[pt b0] w0 fun e w' => ∃ A100 cap100 fp100 fr100, e = .returned (.tuple #[.slice A100 r.1.length cap100, .bool (r.2)]) ∧ OwR 1 encI 24 2 w' fp100 fr100 A100 cap100 r.1 ∧ (∀ x ∈ fp100 ++ fr100, w0.heap.size ≤ x) ∧ Chg [] w0 w' := by
 have L0_0 := F0_0.low
 have L0_1 := F0_1.low
 have L0_2 := F0_2.low
 have L0 := lt1 F0.lt
 have hB : Chg [] w0 w0 := Chg.refl _ _
 have hZ := Nat.le_refl w0.heap.size
 unfold m_spec_l03Fewest_bspecl03Things at hm
 refine enterE (N := 154) Tryd.func64 (by rfl) Tryd.ntmps64 (by simp) [(0, pt b0)] (by rfl) (by kernel_rfl) (fun a => ?_)
 refine sR <| wP 2 [(3, .bool (false)), (2, .slice none 0 0)] <| wN <| sR <| wP 3 [(19, pt b0), (18, pt b0), (17, pt b0)] <| sL 20 ⟨b0, 0, none⟩ (.slice A0_0 l0_0.length cap0_0) vt24 ((F0).cell 0) <| wP 2 [(4, ii (l0_0.length : Int)), (21, ii (l0_0.length : Int))] <| wN <| sR <| wP 2 [(23, .int .u64 (wu ((l0_0.length : Int)))), (22, ii (l0_0.length : Int))] ?_
 obtain ⟨u1, hu1, hm⟩ := bindE hm
 refine wS_shl (d := 24) (x := 1) (y := wu ((l0_0.length : Int))) (yk := .u64) (by kernel_rfl) (p0E hu1) <| wP 1 [(5, ii (shlI 1 (wu ((l0_0.length : Int)))))] <| wN <| sR <| wP 1 [(25, ii (shlI 1 (wu ((l0_0.length : Int)))))] ?_
 obtain ⟨_, hk1, hm⟩ := bindE hm
 replace hk1 := mkE hk1
 refine wS_make (enc := encI) (x0 := (0 : Int)) (d := 26) (t := 24) (T := 2) (k1 := .i64) (k2 := .i64) (m := shlI 1 (wu ((l0_0.length : Int)))) (by kernel_rfl) el24 encI_ok (by rfl) hk1.1 hk1.2 ?_
 intro b1 w1 G1 F1 hc1
 replace F0_0 := F0_0.c hc1
 replace F0_1 := F0_1.c hc1
 replace F0_2 := F0_2.c hc1
 replace F0 := F0.c hc1
 replace hB := hB.q hc1
 replace G1 := Nat.le_trans hZ G1
 replace G1 := low1 G1
 replace hZ := hc1.z hZ
 refine wP 1 [(6, .slice (some ⟨b1, 0, none⟩) (List.replicate (Int.toNat (shlI 1 (wu ((l0_0.length : Int))))) ((0 : Int))).length (Int.toNat (shlI 1 (wu ((l0_0.length : Int))))))] <| wN <| cW_seq <| sR <| wP 1 [(7, ii 1)] <| wN ?_
 obtain ⟨r1, hr1, hm⟩ := bindE hm
 have hm1 := hm
 refine cW_cut (fun a' w' => ∃ l1 : List Int, l1 = r1 ∧ Fr 154 [(0, pt b0), (4, ii (l0_0.length : Int)), (5, ii (shlI 1 (wu ((l0_0.length : Int))))), (6, .slice (some ⟨b1, 0, none⟩) l1.length (Int.toNat (shlI 1 (wu ((l0_0.length : Int))))))] a' ∧ Sl 1 encI w' fp0_0 A0_0 l0_0 ∧ SlR 1 encB w' fp0_1 A0_1 l0_1 ∧ SlR 1 encB w' fp0_2 A0_2 l0_2 ∧ Cl w' b0 94 [.slice A0_0 l0_0.length cap0_0, .slice A0_1 l0_1.length cap0_1, .slice A0_2 l0_2.length cap0_2] ∧ Ow 1 encI 2 w' [b1] (some ⟨b1, 0, none⟩) (Int.toNat (shlI 1 (wu ((l0_0.length : Int))))) l1 ∧ Chg [] w0 w' ∧ w0.heap.size ≤ w'.heap.size) ?_ ?_
 ·refine cW_block ?_
  refine cW_loop _ (fun (s1 : Int × (List Int)) a' w' => ∃ x1 : Int, ∃ l3 : List Int, (x1, l3) = s1 ∧ Fr 154 [(0, pt b0), (4, ii (l0_0.length : Int)), (5, ii (shlI 1 (wu ((l0_0.length : Int))))), (6, .slice (some ⟨b1, 0, none⟩) l3.length (Int.toNat (shlI 1 (wu ((l0_0.length : Int)))))), (7, ii x1)] a' ∧ Sl 1 encI w' fp0_0 A0_0 l0_0 ∧ SlR 1 encB w' fp0_1 A0_1 l0_1 ∧ SlR 1 encB w' fp0_2 A0_2 l0_2 ∧ Cl w' b0 94 [.slice A0_0 l0_0.length cap0_0, .slice A0_1 l0_1.length cap0_1, .slice A0_2 l0_2.length cap0_2] ∧ Ow 1 encI 2 w' [b1] (some ⟨b1, 0, none⟩) (Int.toNat (shlI 1 (wu ((l0_0.length : Int))))) l3 ∧ Chg [] w0 w' ∧ w0.heap.size ≤ w'.heap.size) hr1 (fun hst => ⟨1, List.replicate (Int.toNat (shlI 1 (wu ((l0_0.length : Int))))) ((0 : Int)), rfl, fO hst, F0_0, F0_1, F0_2, F0, F1, hB, hZ⟩) ?_
  rintro _ c1 a' w2 ⟨x1, l3, rfl, hF1, F2, F3, F4, F5, F6, hB, hZ⟩ hx1
  refine gO hF1 ?_
  have hm := hx1
  unfold m_spec_l03Fewest_bspecl03Things_s3 at hm
  refine cW_seq <| sR <| wP 3 [(29, .bool (decide (x1 < (shlI 1 (wu ((l0_0.length : Int))))))), (28, ii (shlI 1 (wu ((l0_0.length : Int))))), (27, ii x1)] <| wN <| cC (decide (x1 < (shlI 1 (wu ((l0_0.length : Int)))))) (fun hb1 => ?_) (fun hb1 => ?_)
  ·have hm := condT hb1 hm
   refine cW_skip <| eX_then <| cW_seq <| cW_block <| sR <| wP 2 [(33, ii x1), (32, .slice (some ⟨b1, 0, none⟩) l3.length (Int.toNat (shlI 1 (wu ((l0_0.length : Int))))))] ?_
   obtain ⟨x2, hx2, hm⟩ := bindE hm
   refine sI 34 (some ⟨b1, 0, none⟩) l3.length (Int.toNat (shlI 1 (wu ((l0_0.length : Int))))) .i64 x1 sl24 ((F6.sl encI_ok).is hx2) ?_
   refine wS_storeEl (x := x2) ((-1)) (T := 2) (U := 2) (cap := (Int.toNat (shlI 1 (wu ((l0_0.length : Int)))))) (j := 0) (A := (some ⟨b1, 0, none⟩)) (v := ii ((-1))) (vs := [ii ((-1))]) (m := x1) (by kernel_rfl) (by rfl) sz2 (by rfl) encI_ok F6 hx2 (by simp only [List.length_cons, List.length_nil]; omega) (by rfl) ?_
   intro w3 F7 hc2
   replace F2 := F2.chg hc2 (Dj.of L0_0 G1)
   replace F3 := F3.chg hc2 (Dj.of L0_1 G1)
   replace F4 := F4.chg hc2 (Dj.of L0_2 G1)
   replace F5 := F5.chg hc2 (dj1 (Dj.of L0 G1))
   replace hB := hB.inS hc2 (inLow G1)
   replace hZ := hc2.z hZ
   clear F6
   rewrite [show l3.length = (l3.set (Int.toNat x1) ((-1))).length from (List.length_set ..).symm]
   refine wN <| sR <| wP 2 [(8, ii x1), (35, ii x1)] <| wN ?_
   obtain ⟨r2, hr2, hm⟩ := bindE hm
   have hm2 := hm
   refine cW_cut (fun a' w' => ∃ l4 : List Int, l4 = r2 ∧ Fr 154 [(0, pt b0), (4, ii (l0_0.length : Int)), (5, ii (shlI 1 (wu ((l0_0.length : Int))))), (6, .slice (some ⟨b1, 0, none⟩) l4.length (Int.toNat (shlI 1 (wu ((l0_0.length : Int)))))), (7, ii x1)] a' ∧ Sl 1 encI w' fp0_0 A0_0 l0_0 ∧ SlR 1 encB w' fp0_1 A0_1 l0_1 ∧ SlR 1 encB w' fp0_2 A0_2 l0_2 ∧ Cl w' b0 94 [.slice A0_0 l0_0.length cap0_0, .slice A0_1 l0_1.length cap0_1, .slice A0_2 l0_2.length cap0_2] ∧ Ow 1 encI 2 w' [b1] (some ⟨b1, 0, none⟩) (Int.toNat (shlI 1 (wu ((l0_0.length : Int))))) l4 ∧ Chg [] w0 w' ∧ w0.heap.size ≤ w'.heap.size) ?_ ?_
   ·refine cW_block ?_
    refine cW_loop _ (fun (s2 : Int × (List Int)) a' w' => ∃ x3 : Int, ∃ l5 : List Int, (x3, l5) = s2 ∧ Fr 154 [(0, pt b0), (4, ii (l0_0.length : Int)), (5, ii (shlI 1 (wu ((l0_0.length : Int))))), (6, .slice (some ⟨b1, 0, none⟩) l5.length (Int.toNat (shlI 1 (wu ((l0_0.length : Int)))))), (7, ii x1), (8, ii x3)] a' ∧ Sl 1 encI w' fp0_0 A0_0 l0_0 ∧ SlR 1 encB w' fp0_1 A0_1 l0_1 ∧ SlR 1 encB w' fp0_2 A0_2 l0_2 ∧ Cl w' b0 94 [.slice A0_0 l0_0.length cap0_0, .slice A0_1 l0_1.length cap0_1, .slice A0_2 l0_2.length cap0_2] ∧ Ow 1 encI 2 w' [b1] (some ⟨b1, 0, none⟩) (Int.toNat (shlI 1 (wu ((l0_0.length : Int))))) l5 ∧ Chg [] w0 w' ∧ w0.heap.size ≤ w'.heap.size) hr2 (fun hst => ⟨x1, l3.set (Int.toNat x1) ((-1)), rfl, fO hst, F2, F3, F4, F5, F7, hB, hZ⟩) ?_
    rintro _ c2 a' w4 ⟨x3, l5, rfl, hF2, F8, F9, F10, F11, F12, hB, hZ⟩ hx3
    refine gO hF2 ?_
    have hm := hx3
    unfold m_spec_l03Fewest_bspecl03Things_s4 at hm
    refine cW_seq <| sR <| wP 2 [(37, .bool (decide (x3 > 0))), (36, ii x3)] <| wN <| cC (decide (x3 > 0)) (fun hb2 => ?_) (fun hb2 => ?_)
    ·have hm := condT hb2 hm
     refine cW_skip <| eX_then <| cW_seq <| cW_block ?_
     obtain ⟨s3, hs1, hm⟩ := bindE hm
     refine cW_cut (fun a' w' => ∃ l6 : List Int, l6 = s3 ∧ Fr 154 [(0, pt b0), (4, ii (l0_0.length : Int)), (5, ii (shlI 1 (wu ((l0_0.length : Int))))), (6, .slice (some ⟨b1, 0, none⟩) l6.length (Int.toNat (shlI 1 (wu ((l0_0.length : Int)))))), (7, ii x1), (8, ii x3)] a' ∧ Sl 1 encI w' fp0_0 A0_0 l0_0 ∧ SlR 1 encB w' fp0_1 A0_1 l0_1 ∧ SlR 1 encB w' fp0_2 A0_2 l0_2 ∧ Cl w' b0 94 [.slice A0_0 l0_0.length cap0_0, .slice A0_1 l0_1.length cap0_1, .slice A0_2 l0_2.length cap0_2] ∧ Ow 1 encI 2 w' [b1] (some ⟨b1, 0, none⟩) (Int.toNat (shlI 1 (wu ((l0_0.length : Int))))) l6 ∧ Chg [] w0 w' ∧ w0.heap.size ≤ w'.heap.size) ?_ ?_
     ·have hm := hs1
      refine sR <| wP 4 [(45, ii (andNI x1 x3)), (44, ii x3), (43, ii x1), (42, .slice (some ⟨b1, 0, none⟩) l5.length (Int.toNat (shlI 1 (wu ((l0_0.length : Int))))))] ?_
      obtain ⟨x4, hx4, hm⟩ := bindE hm
      refine sI 46 (some ⟨b1, 0, none⟩) l5.length (Int.toNat (shlI 1 (wu ((l0_0.length : Int))))) .i64 (andNI x1 x3) sl24 ((F12.sl encI_ok).is hx4) <| sL 47 (elA (some ⟨b1, 0, none⟩) 1 (andNI x1 x3) 0) (ii x4) vt2 (Sl.cell (F12.sl encI_ok) hx4 0 (by rfl)) <| wP 1 [(9, ii x4)] <| wN <| sR <| wP 3 [(50, .bool (decide (x4 ≥ 0))), (49, .bool (decide (x4 ≥ 0))), (48, ii x4)] <| wS_bool (decide (x4 ≥ 0)) (fun hb3 => ?_) (fun hb3 => ?_)
      ·have hm := condT hb3 hm
       rewrite [hb3]
       refine wP 2 [(52, ii x1), (51, .slice (some ⟨b1, 0, none⟩) l5.length (Int.toNat (shlI 1 (wu ((l0_0.length : Int))))))] ?_
       obtain ⟨x5, hx5, hm⟩ := bindE hm
       refine sI 53 (some ⟨b1, 0, none⟩) l5.length (Int.toNat (shlI 1 (wu ((l0_0.length : Int))))) .i64 x1 sl24 ((F12.sl encI_ok).is hx5) <| sL 54 (elA (some ⟨b1, 0, none⟩) 1 (x1) 0) (ii x5) vt2 (Sl.cell (F12.sl encI_ok) hx5 0 (by rfl)) <| wP 2 [(56, .bool (decide (x5 < 0))), (55, .bool (decide (x5 < 0)))] <| wS_bool (decide (x5 < 0)) (fun hb4 => ?_) (fun hb4 => ?_)
       ·have hm := condT hb4 hm
        rewrite [hb4]
        refine wP 13 [(69, ii x1), (68, ii x3), (67, pt b0), (66, .bool (true)), (65, .bool (true)), (64, .bool (true)), (63, undef), (62, undef), (61, undef), (60, undef), (59, undef), (58, undef), (57, undef)] ?_
        obtain ⟨y1, hy1, hm⟩ := bindE hm
        refine sC 70 [pt b0, ii x3, ii x1] ent96 (c_spec_l03Fits_bspecl03Things hy1 F8 F9 F10 F11) ?_
        rintro _ w5 ⟨rfl, hc3⟩
        replace F8 := F8.c hc3
        replace F9 := F9.c hc3
        replace F10 := F10.c hc3
        replace F11 := F11.c hc3
        replace F12 := F12.c hc3
        replace hB := hB.q hc3
        replace hZ := hc3.z hZ
        refine ⟨.bool (y1), rfl, ?_⟩
        refine wP 1 [(71, .bool (y1))] <| wN <| cP [(0, pt b0), (4, ii (l0_0.length : Int)), (5, ii (shlI 1 (wu ((l0_0.length : Int))))), (6, .slice (some ⟨b1, 0, none⟩) l5.length (Int.toNat (shlI 1 (wu ((l0_0.length : Int)))))), (7, ii x1), (8, ii x3), (9, ii x4), (71, .bool (y1))] (fun a1 => ?_)
        refine cC y1 (fun hb5 => ?_) (fun hb5 => ?_)
        ·have hm := condT hb5 hm
         refine cW_region <| wP 4 [(75, ii (wr (x4 + 1))), (74, ii x4), (73, ii x1), (72, .slice (some ⟨b1, 0, none⟩) l5.length (Int.toNat (shlI 1 (wu ((l0_0.length : Int))))))] ?_
         obtain ⟨x6, hx6, hm⟩ := bindE hm
         refine sI 76 (some ⟨b1, 0, none⟩) l5.length (Int.toNat (shlI 1 (wu ((l0_0.length : Int))))) .i64 x1 sl24 ((F12.sl encI_ok).is hx6) ?_
         refine wS_storeEl (x := x6) (wr (x4 + 1)) (T := 2) (U := 2) (cap := (Int.toNat (shlI 1 (wu ((l0_0.length : Int)))))) (j := 0) (A := (some ⟨b1, 0, none⟩)) (v := ii (wr (x4 + 1))) (vs := [ii (wr (x4 + 1))]) (m := x1) (by kernel_rfl) (by rfl) sz2 (by rfl) encI_ok F12 hx6 (by simp only [List.length_cons, List.length_nil]; omega) (by rfl) ?_
         intro w6 F13 hc4
         replace F8 := F8.chg hc4 (Dj.of L0_0 G1)
         replace F9 := F9.chg hc4 (Dj.of L0_1 G1)
         replace F10 := F10.chg hc4 (Dj.of L0_2 G1)
         replace F11 := F11.chg hc4 (dj1 (Dj.of L0 G1))
         replace hB := hB.inS hc4 (inLow G1)
         replace hZ := hc4.z hZ
         clear F12
         rewrite [show l5.length = (l5.set (Int.toNat x1) (wr (x4 + 1))).length from (List.length_set ..).symm]
         refine wE ?_
         obtain rfl := someE (x := l5.set (Int.toNat x1) (wr (x4 + 1))) hm
         exact eX_J (fun hst => ⟨l5.set (Int.toNat x1) (wr (x4 + 1)), rfl, fO hst, F8, F9, F10, F11, F13, hB, hZ⟩)
        have hm := condF hb5 hm
        refine cW_skip ?_
        obtain rfl := someE (x := l5) hm
        exact eX_J (fun hst => ⟨l5, rfl, fO hst, F8, F9, F10, F11, F12, hB, hZ⟩)
       have hm := condF hb4 hm
       rewrite [hb4]
       refine wP 4 [(60, ii x1), (59, .slice (some ⟨b1, 0, none⟩) l5.length (Int.toNat (shlI 1 (wu ((l0_0.length : Int)))))), (58, ii (wr (x4 + 1))), (57, ii x4)] ?_
       obtain ⟨x7, hx7, hm⟩ := bindE hm
       refine sI 61 (some ⟨b1, 0, none⟩) l5.length (Int.toNat (shlI 1 (wu ((l0_0.length : Int))))) .i64 x1 sl24 ((F12.sl encI_ok).is hx7) <| sL 62 (elA (some ⟨b1, 0, none⟩) 1 (x1) 0) (ii x7) vt2 (Sl.cell (F12.sl encI_ok) hx7 0 (by rfl)) <| wP 4 [(66, .bool (decide ((wr (x4 + 1)) < x7))), (65, .bool (decide ((wr (x4 + 1)) < x7))), (64, .bool (decide ((wr (x4 + 1)) < x7))), (63, .bool (decide ((wr (x4 + 1)) < x7)))] <| wS_bool (decide ((wr (x4 + 1)) < x7)) (fun hb6 => ?_) (fun hb6 => ?_)
       ·have hm := condT hb6 hm
        rewrite [hb6]
        refine wP 3 [(69, ii x1), (68, ii x3), (67, pt b0)] ?_
        obtain ⟨y2, hy2, hm⟩ := bindE hm
        refine sC 70 [pt b0, ii x3, ii x1] ent96 (c_spec_l03Fits_bspecl03Things hy2 F8 F9 F10 F11) ?_
        rintro _ w7 ⟨rfl, hc5⟩
        replace F8 := F8.c hc5
        replace F9 := F9.c hc5
        replace F10 := F10.c hc5
        replace F11 := F11.c hc5
        replace F12 := F12.c hc5
        replace hB := hB.q hc5
        replace hZ := hc5.z hZ
        refine ⟨.bool (y2), rfl, ?_⟩
        refine wP 1 [(71, .bool (y2))] <| wN <| cP [(0, pt b0), (4, ii (l0_0.length : Int)), (5, ii (shlI 1 (wu ((l0_0.length : Int))))), (6, .slice (some ⟨b1, 0, none⟩) l5.length (Int.toNat (shlI 1 (wu ((l0_0.length : Int)))))), (7, ii x1), (8, ii x3), (9, ii x4), (71, .bool (y2))] (fun a2 => ?_)
        refine cC y2 (fun hb7 => ?_) (fun hb7 => ?_)
        ·have hm := condT hb7 hm
         refine cW_region <| wP 4 [(75, ii (wr (x4 + 1))), (74, ii x4), (73, ii x1), (72, .slice (some ⟨b1, 0, none⟩) l5.length (Int.toNat (shlI 1 (wu ((l0_0.length : Int))))))] ?_
         obtain ⟨x8, hx8, hm⟩ := bindE hm
         refine sI 76 (some ⟨b1, 0, none⟩) l5.length (Int.toNat (shlI 1 (wu ((l0_0.length : Int))))) .i64 x1 sl24 ((F12.sl encI_ok).is hx8) ?_
         refine wS_storeEl (x := x8) (wr (x4 + 1)) (T := 2) (U := 2) (cap := (Int.toNat (shlI 1 (wu ((l0_0.length : Int)))))) (j := 0) (A := (some ⟨b1, 0, none⟩)) (v := ii (wr (x4 + 1))) (vs := [ii (wr (x4 + 1))]) (m := x1) (by kernel_rfl) (by rfl) sz2 (by rfl) encI_ok F12 hx8 (by simp only [List.length_cons, List.length_nil]; omega) (by rfl) ?_
         intro w8 F14 hc6
         replace F8 := F8.chg hc6 (Dj.of L0_0 G1)
         replace F9 := F9.chg hc6 (Dj.of L0_1 G1)
         replace F10 := F10.chg hc6 (Dj.of L0_2 G1)
         replace F11 := F11.chg hc6 (dj1 (Dj.of L0 G1))
         replace hB := hB.inS hc6 (inLow G1)
         replace hZ := hc6.z hZ
         clear F12
         rewrite [show l5.length = (l5.set (Int.toNat x1) (wr (x4 + 1))).length from (List.length_set ..).symm]
         refine wE ?_
         obtain rfl := someE (x := l5.set (Int.toNat x1) (wr (x4 + 1))) hm
         exact eX_J (fun hst => ⟨l5.set (Int.toNat x1) (wr (x4 + 1)), rfl, fO hst, F8, F9, F10, F11, F14, hB, hZ⟩)
        have hm := condF hb7 hm
        refine cW_skip ?_
        obtain rfl := someE (x := l5) hm
        exact eX_J (fun hst => ⟨l5, rfl, fO hst, F8, F9, F10, F11, F12, hB, hZ⟩)
       have hm := condF hb6 hm
       rewrite [hb6]
       refine wP 5 [(71, .bool (false)), (70, undef), (69, undef), (68, undef), (67, undef)] <| wN <| cP [(0, pt b0), (4, ii (l0_0.length : Int)), (5, ii (shlI 1 (wu ((l0_0.length : Int))))), (6, .slice (some ⟨b1, 0, none⟩) l5.length (Int.toNat (shlI 1 (wu ((l0_0.length : Int)))))), (7, ii x1), (8, ii x3), (9, ii x4), (71, .bool (false))] (fun a3 => ?_)
       refine cCf <| cW_skip ?_
       obtain rfl := someE (x := l5) hm
       exact eX_J (fun hst => ⟨l5, rfl, fO hst, F8, F9, F10, F11, F12, hB, hZ⟩)
      have hm := condF hb3 hm
      rewrite [hb3]
      refine wP 21 [(71, .bool (false)), (70, undef), (69, undef), (68, undef), (67, undef), (66, .bool (false)), (65, .bool (false)), (64, undef), (63, undef), (62, undef), (61, undef), (60, undef), (59, undef), (58, undef), (57, undef), (56, undef), (55, undef), (54, undef), (53, undef), (52, undef), (51, undef)] <| wN <| cP [(0, pt b0), (4, ii (l0_0.length : Int)), (5, ii (shlI 1 (wu ((l0_0.length : Int))))), (6, .slice (some ⟨b1, 0, none⟩) l5.length (Int.toNat (shlI 1 (wu ((l0_0.length : Int)))))), (7, ii x1), (8, ii x3), (9, ii x4), (71, .bool (false))] (fun a4 => ?_)
      refine cCf <| cW_skip ?_
      obtain rfl := someE (x := l5) hm
      exact eX_J (fun hst => ⟨l5, rfl, fO hst, F8, F9, F10, F11, F12, hB, hZ⟩)
     rintro a' w9 ⟨l6, hJ, hF3, F15, F16, F17, F18, F19, hB, hZ⟩
     subst hJ
     refine gX hF3 <| eX_block <| eX_then <| cW_region <| wP 5 [(8, ii (andI (wr (x3 - 1)) x1)), (41, ii (andI (wr (x3 - 1)) x1)), (40, ii x1), (39, ii (wr (x3 - 1))), (38, ii x3)] <| wE ?_
     obtain rfl := someE (x := (Ctl.next ((andI (wr (x3 - 1)) x1, l6)))) hm
     exact eX_next hx3 (fun hst => ⟨andI (wr (x3 - 1)) x1, l6, rfl, fO hst, F15, F16, F17, F18, F19, hB, hZ⟩)
    have hm := condF hb2 hm
    refine cW_exit <| eX_then_exit ?_
    obtain rfl := someE (x := Ctl.out l5) hm
    refine eX_outX hx3 (fun hr3 => ?_)
    replace hr3 := hr3.symm
    subst hr3
    refine eX_block_hit ?_
    exact eX_J (fun hst => ⟨l5, rfl, fO hst, F8, F9, F10, F11, F12, hB, hZ⟩)
   rintro a' w10 ⟨l4, hJ, hF4, F20, F21, F22, F23, F24, hB, hZ⟩
   subst hJ
   refine gX hF4 <| eX_block <| eX_then <| cW_region <| wP 3 [(7, ii (wr (x1 + 1))), (31, ii (wr (x1 + 1))), (30, ii x1)] <| wE ?_
   obtain rfl := someE (x := (Ctl.next ((wr (x1 + 1), l4)))) hm
   exact eX_next hx1 (fun hst => ⟨wr (x1 + 1), l4, rfl, fO hst, F20, F21, F22, F23, F24, hB, hZ⟩)
  have hm := condF hb1 hm
  refine cW_exit <| eX_then_exit ?_
  obtain rfl := someE (x := Ctl.out l3) hm
  refine eX_outX hx1 (fun hr4 => ?_)
  replace hr4 := hr4.symm
  subst hr4
  refine eX_block_hit ?_
  exact eX_J (fun hst => ⟨l3, rfl, fO hst, F2, F3, F4, F5, F6, hB, hZ⟩)
 rintro a' w11 ⟨l1, hJ, hF5, F25, F26, F27, F28, F29, hB, hZ⟩
 subst hJ
 refine gX hF5 <| eX_then <| cW_seq <| sR <| wP 3 [(79, ii (wr ((shlI 1 (wu ((l0_0.length : Int)))) - 1))), (78, ii (shlI 1 (wu ((l0_0.length : Int))))), (77, .slice (some ⟨b1, 0, none⟩) l1.length (Int.toNat (shlI 1 (wu ((l0_0.length : Int))))))] ?_
 obtain ⟨x9, hx9, hm⟩ := bindE hm
 refine sI 80 (some ⟨b1, 0, none⟩) l1.length (Int.toNat (shlI 1 (wu ((l0_0.length : Int))))) .i64 (wr ((shlI 1 (wu ((l0_0.length : Int)))) - 1)) sl24 ((F29.sl encI_ok).is hx9) <| sL 81 (elA (some ⟨b1, 0, none⟩) 1 (wr ((shlI 1 (wu ((l0_0.length : Int)))) - 1)) 0) (ii x9) vt2 (Sl.cell (F29.sl encI_ok) hx9 0 (by rfl)) <| wP 1 [(82, .bool (decide (x9 < 0)))] <| wN <| cC (decide (x9 < 0)) (fun hb8 => ?_) (fun hb8 => ?_)
 ·have hm := condT hb8 hm
  refine sR <| wP 2 [(3, .bool (false)), (2, .slice none 0 0)] <| wN <| cW_ret <| eX_then_ret ?_
  obtain rfl := someE (x := (([], false))) hm
  refine rB (.slice none 0 0) (.bool (false)) 2 3 ?_
  exact ⟨none, 0, [], [], rfl, OwR.nil _, (lowApp lowNil lowNil), hB⟩
 have hm := condF hb8 hm
 refine cW_skip <| eX_then <| sR <| wS_rows0 (k := 1) (enc := encI) (d := 83) (t := 28) (T := 24) (T2 := 2) (by kernel_rfl) el28 ?_
 intro b2 w12 G2 F30 hc7
 have D1 : Dj [b1] ([b2] ++ []) := Dj.of F29.low (lowApp (low1 G2) lowNil)
 replace F25 := F25.c hc7
 replace F26 := F26.c hc7
 replace F27 := F27.c hc7
 replace F28 := F28.c hc7
 replace F29 := F29.c hc7
 replace hB := hB.q hc7
 replace G2 := Nat.le_trans hZ G2
 replace G2 := low1 G2
 replace hZ := hc7.z hZ
 replace G2 := lowApp G2 lowNil
 refine wP 1 [(10, .slice (some ⟨b2, 0, none⟩) (([] : List (List Int))).length 0)] <| wN <| cW_seq <| sR <| wP 3 [(11, ii (wr ((shlI 1 (wu ((l0_0.length : Int)))) - 1))), (85, ii (wr ((shlI 1 (wu ((l0_0.length : Int)))) - 1))), (84, ii (shlI 1 (wu ((l0_0.length : Int)))))] <| wN ?_
 obtain ⟨r3, hr5, hm⟩ := bindE hm
 have hm3 := hm
 refine cW_cut (fun a' w' => ∃ l7 : List (List Int), ∃ A1 : Option Addr, ∃ cap1 : Nat, ∃ fp1 : List Nat, ∃ fr1 : List Nat, l7 = r3 ∧ Fr 154 [(10, .slice A1 l7.length cap1)] a' ∧ OwR 1 encI 24 2 w' fp1 fr1 A1 cap1 l7 ∧ (∀ x ∈ (fp1 ++ fr1), w0.heap.size ≤ x) ∧ Chg [] w0 w' ∧ w0.heap.size ≤ w'.heap.size) ?_ ?_
 ·refine cW_block ?_
  refine cW_loop _ (fun (s4 : (List (List Int)) × Int) a' w' => ∃ l8 : List (List Int), ∃ A3 : Option Addr, ∃ cap3 : Nat, ∃ fp2 : List Nat, ∃ fr2 : List Nat, ∃ x10 : Int, (l8, x10) = s4 ∧ Fr 154 [(0, pt b0), (4, ii (l0_0.length : Int)), (6, .slice (some ⟨b1, 0, none⟩) l1.length (Int.toNat (shlI 1 (wu ((l0_0.length : Int)))))), (10, .slice A3 l8.length cap3), (11, ii x10)] a' ∧ Sl 1 encI w' fp0_0 A0_0 l0_0 ∧ SlR 1 encB w' fp0_1 A0_1 l0_1 ∧ SlR 1 encB w' fp0_2 A0_2 l0_2 ∧ Cl w' b0 94 [.slice A0_0 l0_0.length cap0_0, .slice A0_1 l0_1.length cap0_1, .slice A0_2 l0_2.length cap0_2] ∧ Ow 1 encI 2 w' [b1] (some ⟨b1, 0, none⟩) (Int.toNat (shlI 1 (wu ((l0_0.length : Int))))) l1 ∧ OwR 1 encI 24 2 w' fp2 fr2 A3 cap3 l8 ∧ (∀ x ∈ (fp2 ++ fr2), w0.heap.size ≤ x) ∧ Dj [b1] (fp2 ++ fr2) ∧ Chg [] w0 w' ∧ w0.heap.size ≤ w'.heap.size) hr5 (fun hst => ⟨([] : List (List Int)), (some ⟨b2, 0, none⟩), 0, [b2], [], wr ((shlI 1 (wu ((l0_0.length : Int)))) - 1), rfl, fO hst, F25, F26, F27, F28, F29, F30, G2, D1, hB, hZ⟩) ?_
  rintro _ c3 a' w13 ⟨l8, A3, cap3, fp2, fr2, x10, rfl, hF6, F31, F32, F33, F34, F35, F36, G3, D2, hB, hZ⟩ hx10
  refine gO hF6 ?_
  have hm := hx10
  unfold m_spec_l03Fewest_bspecl03Things_s19 at hm
  refine cW_seq <| sR <| wP 2 [(87, .bool (decide (x10 > 0))), (86, ii x10)] <| wN <| cC (decide (x10 > 0)) (fun hb9 => ?_) (fun hb9 => ?_)
  ·have hm := condT hb9 hm
   refine cW_skip <| eX_then <| cW_block <| sR <| wS_bs0 (α := Int) (enc := encI) (d := 88) (t := 24) (T := 2) (by kernel_rfl) el24 ?_
   intro b3 w14 G4 F37 hc8
   have D3 : Dj [b1] [b3] := Dj.of F35.low (low1 G4)
   have D4 : Dj (fp2 ++ fr2) [b3] := Dj.of F36.low (low1 G4)
   replace F31 := F31.c hc8
   replace F32 := F32.c hc8
   replace F33 := F33.c hc8
   replace F34 := F34.c hc8
   replace F35 := F35.c hc8
   replace F36 := F36.c hc8
   replace hB := hB.q hc8
   replace G4 := Nat.le_trans hZ G4
   replace G4 := low1 G4
   replace hZ := hc8.z hZ
   refine wP 1 [(12, .slice (some ⟨b3, 0, none⟩) (([] : List Int)).length 0)] <| wN <| sR <| wP 1 [(13, ii 0)] <| wN <| cW_seq <| sR <| wP 2 [(14, ii x10), (89, ii x10)] <| wN ?_
   obtain ⟨r4, hr6, hm⟩ := bindE hm
   have hm4 := hm
   refine cW_cut (fun a' w' => ∃ l9 : List Int, ∃ A4 : Option Addr, ∃ cap4 : Nat, ∃ fp3 : List Nat, ∃ x11 : Int, (l9, x11) = r4 ∧ Fr 154 [(0, pt b0), (4, ii (l0_0.length : Int)), (6, .slice (some ⟨b1, 0, none⟩) l1.length (Int.toNat (shlI 1 (wu ((l0_0.length : Int)))))), (10, .slice A3 l8.length cap3), (11, ii x10), (12, .slice A4 l9.length cap4), (13, ii x11)] a' ∧ Sl 1 encI w' fp0_0 A0_0 l0_0 ∧ SlR 1 encB w' fp0_1 A0_1 l0_1 ∧ SlR 1 encB w' fp0_2 A0_2 l0_2 ∧ Cl w' b0 94 [.slice A0_0 l0_0.length cap0_0, .slice A0_1 l0_1.length cap0_1, .slice A0_2 l0_2.length cap0_2] ∧ Ow 1 encI 2 w' [b1] (some ⟨b1, 0, none⟩) (Int.toNat (shlI 1 (wu ((l0_0.length : Int))))) l1 ∧ OwR 1 encI 24 2 w' fp2 fr2 A3 cap3 l8 ∧ Ow 1 encI 2 w' fp3 A4 cap4 l9 ∧ (∀ x ∈ fp3, w0.heap.size ≤ x) ∧ Dj [b1] fp3 ∧ Dj (fp2 ++ fr2) fp3 ∧ Chg [] w0 w' ∧ w0.heap.size ≤ w'.heap.size) ?_ ?_
   ·refine cW_block ?_
    refine cW_loop _ (fun (s5 : (List Int) × Int × Int) a' w' => ∃ l10 : List Int, ∃ A5 : Option Addr, ∃ cap5 : Nat, ∃ fp4 : List Nat, ∃ x12 : Int, ∃ x13 : Int, (l10, x12, x13) = s5 ∧ Fr 154 [(0, pt b0), (4, ii (l0_0.length : Int)), (6, .slice (some ⟨b1, 0, none⟩) l1.length (Int.toNat (shlI 1 (wu ((l0_0.length : Int)))))), (10, .slice A3 l8.length cap3), (11, ii x10), (12, .slice A5 l10.length cap5), (13, ii x12), (14, ii x13)] a' ∧ Sl 1 encI w' fp0_0 A0_0 l0_0 ∧ SlR 1 encB w' fp0_1 A0_1 l0_1 ∧ SlR 1 encB w' fp0_2 A0_2 l0_2 ∧ Cl w' b0 94 [.slice A0_0 l0_0.length cap0_0, .slice A0_1 l0_1.length cap0_1, .slice A0_2 l0_2.length cap0_2] ∧ Ow 1 encI 2 w' [b1] (some ⟨b1, 0, none⟩) (Int.toNat (shlI 1 (wu ((l0_0.length : Int))))) l1 ∧ OwR 1 encI 24 2 w' fp2 fr2 A3 cap3 l8 ∧ Ow 1 encI 2 w' fp4 A5 cap5 l10 ∧ (∀ x ∈ fp4, w0.heap.size ≤ x) ∧ Dj [b1] fp4 ∧ Dj (fp2 ++ fr2) fp4 ∧ Chg [] w0 w' ∧ w0.heap.size ≤ w'.heap.size) hr6 (fun hst => ⟨([] : List Int), (some ⟨b3, 0, none⟩), 0, [b3], 0, x10, rfl, fO hst, F31, F32, F33, F34, F35, F36, F37, G4, D3, D4, hB, hZ⟩) ?_
    rintro _ c4 a' w15 ⟨l10, A5, cap5, fp4, x12, x13, rfl, hF7, F38, F39, F40, F41, F42, F43, F44, G5, D5, D6, hB, hZ⟩ hx11
    refine gO hF7 ?_
    have hm := hx11
    unfold m_spec_l03Fewest_bspecl03Things_s24 at hm
    refine cW_seq <| sR <| wP 2 [(91, .bool (decide (x13 > 0))), (90, ii x13)] <| wN <| cC (decide (x13 > 0)) (fun hb10 => ?_) (fun hb10 => ?_)
    ·have hm := condT hb10 hm
     refine cW_skip <| eX_then <| cW_seq <| cW_block <| cW_seq <| cW_seq <| cW_drawnTail [] 16 (by kernel_rfl) (by kernel_rfl) (fun w16 hc9 => ?_)
     replace F38 := F38.c hc9
     replace F39 := F39.c hc9
     replace F40 := F40.c hc9
     replace F41 := F41.c hc9
     replace F42 := F42.c hc9
     replace F43 := F43.c hc9
     replace F44 := F44.c hc9
     replace hB := hB.q hc9
     replace hZ := hc9.z hZ
     have hS := Chg.refl [] w16
     have Z1 := F38
     have Z2 := F39
     have Z3 := F40
     have Z4 := F41
     have Z5 := F42
     have Z6 := F43
     have Z7 := F44
     refine hT [0, 1, 2, 3] [(99, ii (andNI x10 x13)), (98, ii x13), (97, ii x10), (96, .slice (some ⟨b1, 0, none⟩) l1.length (Int.toNat (shlI 1 (wu ((l0_0.length : Int))))))] ?_
     obtain ⟨x14, hx12, hm⟩ := bindE hm
     refine hI 4 100 (some ⟨b1, 0, none⟩) l1.length (Int.toNat (shlI 1 (wu ((l0_0.length : Int))))) .i64 (andNI x10 x13) sl24 ((F42.sl encI_ok).is hx12) <| hL 5 101 (elA (some ⟨b1, 0, none⟩) 1 (andNI x10 x13) 0) (ii x14) vt2 (fun W hW => Sl.cell ((Z5.c hW).sl encI_ok) hx12 0 (by rfl)) ?_
     refine hT [6, 7] [(103, ii x10), (102, .slice (some ⟨b1, 0, none⟩) l1.length (Int.toNat (shlI 1 (wu ((l0_0.length : Int))))))] ?_
     obtain ⟨x15, hx13, hm⟩ := bindE hm
     refine hI 8 104 (some ⟨b1, 0, none⟩) l1.length (Int.toNat (shlI 1 (wu ((l0_0.length : Int))))) .i64 x10 sl24 ((F42.sl encI_ok).is hx13) <| hL 9 105 (elA (some ⟨b1, 0, none⟩) 1 (x10) 0) (ii x15) vt2 (fun W hW => Sl.cell ((Z5.c hW).sl encI_ok) hx13 0 (by rfl)) ?_
     refine hT [10, 11, 12] [(108, .bool (x14 != (wr (x15 - 1)))), (107, .bool (x14 != (wr (x15 - 1)))), (106, ii (wr (x15 - 1)))] <| wH_bool (x14 != (wr (x15 - 1))) (fun hb11 => ?_) (fun hb11 => ?_)
     ·have hm := condT hb11 hm
      rewrite [hb11]
      refine hT [13, 14, 15] [(111, undef), (110, undef), (109, undef)] <| wD <| eX_tail <| wP 3 [(114, .bool (true)), (113, undef), (112, undef)] <| wN <| cP [(0, pt b0), (4, ii (l0_0.length : Int)), (6, .slice (some ⟨b1, 0, none⟩) l1.length (Int.toNat (shlI 1 (wu ((l0_0.length : Int)))))), (10, .slice A3 l8.length cap3), (11, ii x10), (12, .slice A5 l10.length cap5), (13, ii x12), (14, ii x13), (114, .bool (true))] (fun a5 => ?_)
      refine cCt <| cW_exit <| eX_then_exit <| eX_block_hit <| eX_then <| cW_region <| wP 5 [(14, ii (andI (wr (x13 - 1)) x10)), (95, ii (andI (wr (x13 - 1)) x10)), (94, ii x10), (93, ii (wr (x13 - 1))), (92, ii x13)] <| wE ?_
      obtain rfl := someE (x := (Ctl.next ((l10, x12, andI (wr (x13 - 1)) x10)))) hm
      exact eX_next hx11 (fun hst => ⟨l10, A5, cap5, fp4, x12, andI (wr (x13 - 1)) x10, rfl, fO hst, F38, F39, F40, F41, F42, F43, F44, G5, D5, D6, hB, hZ⟩)
     have hm := condF hb11 hm
     rewrite [hb11]
     refine hT [13, 14, 15] [(111, ii x10), (110, ii x13), (109, pt b0)] <| wD <| eX_tail ?_
     obtain ⟨y3, hy3, hm⟩ := bindE hm
     refine sC 112 [pt b0, ii x13, ii x10] ent96 (c_spec_l03Fits_bspecl03Things hy3 F38 F39 F40 F41) ?_
     rintro _ w17 ⟨rfl, hc10⟩
     replace F38 := F38.c hc10
     replace F39 := F39.c hc10
     replace F40 := F40.c hc10
     replace F41 := F41.c hc10
     replace F42 := F42.c hc10
     replace F43 := F43.c hc10
     replace F44 := F44.c hc10
     replace hB := hB.q hc10
     replace hZ := hc10.z hZ
     refine ⟨.bool (y3), rfl, ?_⟩
     refine wP 2 [(114, .bool (!y3)), (113, .bool (!y3))] <| wN <| cP [(0, pt b0), (4, ii (l0_0.length : Int)), (6, .slice (some ⟨b1, 0, none⟩) l1.length (Int.toNat (shlI 1 (wu ((l0_0.length : Int)))))), (10, .slice A3 l8.length cap3), (11, ii x10), (12, .slice A5 l10.length cap5), (13, ii x12), (14, ii x13), (114, .bool (!y3))] (fun a6 => ?_)
     refine cC (!y3) (fun hb12 => ?_) (fun hb12 => ?_)
     ·have hm := condT hb12 hm
      refine cW_exit <| eX_then_exit <| eX_block_hit <| eX_then <| cW_region <| wP 5 [(14, ii (andI (wr (x13 - 1)) x10)), (95, ii (andI (wr (x13 - 1)) x10)), (94, ii x10), (93, ii (wr (x13 - 1))), (92, ii x13)] <| wE ?_
      obtain rfl := someE (x := (Ctl.next ((l10, x12, andI (wr (x13 - 1)) x10)))) hm
      exact eX_next hx11 (fun hst => ⟨l10, A5, cap5, fp4, x12, andI (wr (x13 - 1)) x10, rfl, fO hst, F38, F39, F40, F41, F42, F43, F44, G5, D5, D6, hB, hZ⟩)
     have hm := condF hb12 hm
     refine cW_skip <| eX_then ?_
     obtain ⟨s6, hs2, hm⟩ := bindE hm
     refine cW_cut (fun a' w' => ∃ l11 : List Int, ∃ A6 : Option Addr, ∃ cap6 : Nat, ∃ fp5 : List Nat, ∃ x16 : Int, (l11, x16) = s6 ∧ Fr 154 [(0, pt b0), (4, ii (l0_0.length : Int)), (6, .slice (some ⟨b1, 0, none⟩) l1.length (Int.toNat (shlI 1 (wu ((l0_0.length : Int)))))), (10, .slice A3 l8.length cap3), (11, ii x10), (12, .slice A6 l11.length cap6), (13, ii x16), (14, ii x13)] a' ∧ Sl 1 encI w' fp0_0 A0_0 l0_0 ∧ SlR 1 encB w' fp0_1 A0_1 l0_1 ∧ SlR 1 encB w' fp0_2 A0_2 l0_2 ∧ Cl w' b0 94 [.slice A0_0 l0_0.length cap0_0, .slice A0_1 l0_1.length cap0_1, .slice A0_2 l0_2.length cap0_2] ∧ Ow 1 encI 2 w' [b1] (some ⟨b1, 0, none⟩) (Int.toNat (shlI 1 (wu ((l0_0.length : Int))))) l1 ∧ OwR 1 encI 24 2 w' fp2 fr2 A3 cap3 l8 ∧ Ow 1 encI 2 w' fp5 A6 cap6 l11 ∧ (∀ x ∈ fp5, w0.heap.size ≤ x) ∧ Dj [b1] fp5 ∧ Dj (fp2 ++ fr2) fp5 ∧ Chg [] w0 w' ∧ w0.heap.size ≤ w'.heap.size) ?_ ?_
     ·have hm := hs2
      refine sR <| wS_bs0 (α := Int) (enc := encI) (d := 115) (t := 24) (T := 2) (by kernel_rfl) el24 ?_
      intro b4 w18 G6 F45 hc11
      have D7 : Dj [b1] [b4] := Dj.of F42.low (low1 G6)
      have D8 : Dj (fp2 ++ fr2) [b4] := Dj.of F43.low (low1 G6)
      have D9 : Dj fp4 [b4] := Dj.of F44.low (low1 G6)
      replace F38 := F38.c hc11
      replace F39 := F39.c hc11
      replace F40 := F40.c hc11
      replace F41 := F41.c hc11
      replace F42 := F42.c hc11
      replace F43 := F43.c hc11
      replace F44 := F44.c hc11
      replace hB := hB.q hc11
      replace G6 := Nat.le_trans hZ G6
      replace G6 := low1 G6
      replace hZ := hc11.z hZ
      refine wP 1 [(15, .slice (some ⟨b4, 0, none⟩) (([] : List Int)).length 0)] <| wN <| cW_seq <| sR <| wP 1 [(16, ii 0)] <| wN ?_
      obtain ⟨r5, hr7, hm⟩ := bindE hm
      have hm5 := hm
      refine cW_cut (fun a' w' => ∃ l12 : List Int, ∃ A7 : Option Addr, ∃ cap7 : Nat, ∃ fp6 : List Nat, l12 = r5 ∧ Fr 154 [(0, pt b0), (4, ii (l0_0.length : Int)), (6, .slice (some ⟨b1, 0, none⟩) l1.length (Int.toNat (shlI 1 (wu ((l0_0.length : Int)))))), (10, .slice A3 l8.length cap3), (11, ii x10), (12, .slice A5 l10.length cap5), (13, ii x12), (14, ii x13), (15, .slice A7 l12.length cap7)] a' ∧ Sl 1 encI w' fp0_0 A0_0 l0_0 ∧ SlR 1 encB w' fp0_1 A0_1 l0_1 ∧ SlR 1 encB w' fp0_2 A0_2 l0_2 ∧ Cl w' b0 94 [.slice A0_0 l0_0.length cap0_0, .slice A0_1 l0_1.length cap0_1, .slice A0_2 l0_2.length cap0_2] ∧ Ow 1 encI 2 w' [b1] (some ⟨b1, 0, none⟩) (Int.toNat (shlI 1 (wu ((l0_0.length : Int))))) l1 ∧ OwR 1 encI 24 2 w' fp2 fr2 A3 cap3 l8 ∧ Ow 1 encI 2 w' fp4 A5 cap5 l10 ∧ Ow 1 encI 2 w' fp6 A7 cap7 l12 ∧ (∀ x ∈ fp6, w0.heap.size ≤ x) ∧ Dj [b1] fp6 ∧ Dj (fp2 ++ fr2) fp6 ∧ Dj fp4 fp6 ∧ Chg [] w0 w' ∧ w0.heap.size ≤ w'.heap.size) ?_ ?_
      ·refine cW_block ?_
       refine cW_loop _ (fun (s7 : (List Int) × Int) a' w' => ∃ l13 : List Int, ∃ A8 : Option Addr, ∃ cap8 : Nat, ∃ fp7 : List Nat, ∃ x17 : Int, (l13, x17) = s7 ∧ Fr 154 [(0, pt b0), (4, ii (l0_0.length : Int)), (6, .slice (some ⟨b1, 0, none⟩) l1.length (Int.toNat (shlI 1 (wu ((l0_0.length : Int)))))), (10, .slice A3 l8.length cap3), (11, ii x10), (12, .slice A5 l10.length cap5), (13, ii x12), (14, ii x13), (15, .slice A8 l13.length cap8), (16, ii x17)] a' ∧ Sl 1 encI w' fp0_0 A0_0 l0_0 ∧ SlR 1 encB w' fp0_1 A0_1 l0_1 ∧ SlR 1 encB w' fp0_2 A0_2 l0_2 ∧ Cl w' b0 94 [.slice A0_0 l0_0.length cap0_0, .slice A0_1 l0_1.length cap0_1, .slice A0_2 l0_2.length cap0_2] ∧ Ow 1 encI 2 w' [b1] (some ⟨b1, 0, none⟩) (Int.toNat (shlI 1 (wu ((l0_0.length : Int))))) l1 ∧ OwR 1 encI 24 2 w' fp2 fr2 A3 cap3 l8 ∧ Ow 1 encI 2 w' fp4 A5 cap5 l10 ∧ Ow 1 encI 2 w' fp7 A8 cap8 l13 ∧ (∀ x ∈ fp7, w0.heap.size ≤ x) ∧ Dj [b1] fp7 ∧ Dj (fp2 ++ fr2) fp7 ∧ Dj fp4 fp7 ∧ Chg [] w0 w' ∧ w0.heap.size ≤ w'.heap.size) hr7 (fun hst => ⟨([] : List Int), (some ⟨b4, 0, none⟩), 0, [b4], 0, rfl, fO hst, F38, F39, F40, F41, F42, F43, F44, F45, G6, D7, D8, D9, hB, hZ⟩) ?_
       rintro _ c5 a' w19 ⟨l13, A8, cap8, fp7, x17, rfl, hF8, F46, F47, F48, F49, F50, F51, F52, F53, G7, D10, D11, D12, hB, hZ⟩ hx14
       refine gO hF8 ?_
       have hm := hx14
       unfold m_spec_l03Fewest_bspecl03Things_s26 at hm
       refine cW_seq <| sR <| wP 3 [(118, .bool (decide (x17 < ((l0_0.length : Int))))), (117, ii (l0_0.length : Int)), (116, ii x17)] <| wN <| cC (decide (x17 < ((l0_0.length : Int)))) (fun hb13 => ?_) (fun hb13 => ?_)
       ·have hm := condT hb13 hm
        refine cW_skip <| eX_then <| cW_seq <| cW_block ?_
        obtain ⟨s8, hs3, hm⟩ := bindE hm
        refine cW_cut (fun a' w' => ∃ l14 : List Int, ∃ A9 : Option Addr, ∃ cap9 : Nat, ∃ fp8 : List Nat, l14 = s8 ∧ Fr 154 [(0, pt b0), (4, ii (l0_0.length : Int)), (6, .slice (some ⟨b1, 0, none⟩) l1.length (Int.toNat (shlI 1 (wu ((l0_0.length : Int)))))), (10, .slice A3 l8.length cap3), (11, ii x10), (12, .slice A5 l10.length cap5), (13, ii x12), (14, ii x13), (15, .slice A9 l14.length cap9), (16, ii x17)] a' ∧ Sl 1 encI w' fp0_0 A0_0 l0_0 ∧ SlR 1 encB w' fp0_1 A0_1 l0_1 ∧ SlR 1 encB w' fp0_2 A0_2 l0_2 ∧ Cl w' b0 94 [.slice A0_0 l0_0.length cap0_0, .slice A0_1 l0_1.length cap0_1, .slice A0_2 l0_2.length cap0_2] ∧ Ow 1 encI 2 w' [b1] (some ⟨b1, 0, none⟩) (Int.toNat (shlI 1 (wu ((l0_0.length : Int))))) l1 ∧ OwR 1 encI 24 2 w' fp2 fr2 A3 cap3 l8 ∧ Ow 1 encI 2 w' fp4 A5 cap5 l10 ∧ Ow 1 encI 2 w' fp8 A9 cap9 l14 ∧ (∀ x ∈ fp8, w0.heap.size ≤ x) ∧ Dj [b1] fp8 ∧ Dj (fp2 ++ fr2) fp8 ∧ Dj fp4 fp8 ∧ Chg [] w0 w' ∧ w0.heap.size ≤ w'.heap.size) ?_ ?_
        ·have hm := hs3
         refine sR <| wP 3 [(123, .int .u64 (wu x17)), (122, ii x17), (121, ii x13)] ?_
         obtain ⟨u2, hu2, hm⟩ := bindE hm
         refine wS_shr (d := 124) (x := x13) (y := wu x17) (yk := .u64) (by kernel_rfl) (p0E hu2) <| wP 2 [(126, .bool ((andI (shrI x13 (wu x17)) 1) == 1)), (125, ii (andI (shrI x13 (wu x17)) 1))] <| wN <| cC ((andI (shrI x13 (wu x17)) 1) == 1) (fun hb14 => ?_) (fun hb14 => ?_)
         ·have hm := condT hb14 hm
          refine cW_region <| wP 4 [(130, pt b0), (129, pt b0), (128, pt b0), (127, .slice A8 l13.length cap8)] <| sL 131 ⟨b0, 0, none⟩ (.slice A0_0 l0_0.length cap0_0) vt24 ((F49).cell 0) <| wP 1 [(132, ii x17)] ?_
          obtain ⟨x18, hx15, hm⟩ := bindE hm
          refine sI 133 A0_0 l0_0.length cap0_0 .i64 x17 sl24 (F46.is hx15) <| sL 134 (elA A0_0 1 (x17) 0) (ii x18) vt2 (Sl.cell F46 hx15 0 (by rfl)) <| wS_bs (enc := encI) ([x18] : List Int) [ii x18] (d := 135) (t := 24) (T := 2) (n := 1) (ps := [(0, ii x18)]) (by kernel_rfl) el24 encI_ok (by rfl) (by omega) (by omega) (by kernel_rfl) (by rfl) ?_
          intro b5 w20 G8 F54 hc12
          have D13 : Dj [b1] [b5] := Dj.of F50.low (low1 G8)
          have D14 : Dj (fp2 ++ fr2) [b5] := Dj.of F51.low (low1 G8)
          have D15 : Dj fp4 [b5] := Dj.of F52.low (low1 G8)
          have D16 : Dj fp7 [b5] := Dj.of F53.low (low1 G8)
          replace F46 := F46.c hc12
          replace F47 := F47.c hc12
          replace F48 := F48.c hc12
          replace F49 := F49.c hc12
          replace F50 := F50.c hc12
          replace F51 := F51.c hc12
          replace F52 := F52.c hc12
          replace F53 := F53.c hc12
          replace hB := hB.q hc12
          replace G8 := Nat.le_trans hZ G8
          replace G8 := low1 G8
          replace hZ := hc12.z hZ
          obtain ⟨_, hk2, hm⟩ := bindE hm
          replace hk2 := apE hk2
          refine wS_append (enc := encI) (l := (l13 : List Int)) (l2 := (([x18] : List Int) : List Int)) (d := 136) (t := 24) (T := 2) (A := A8) (A2 := (some ⟨b5, 0, none⟩)) (cap := cap8) (cap2 := 1) (by kernel_rfl) el24 encI_ok F53 (F54.sl encI_ok) (by rfl) hk2 ?_
          intro w21 fp9 A10 cap10 F55 hc13 hp1
          have G9 := low_ap G7 hZ hp1
          have D17 : Dj [b1] fp9 := Dj.ap D10 F50.low hp1
          have D18 : Dj (fp2 ++ fr2) fp9 := Dj.ap D11 F51.low hp1
          have D19 : Dj fp4 fp9 := Dj.ap D12 F52.low hp1
          have D20 : Dj [b5] fp9 := Dj.ap (D16).symm F54.low hp1
          replace F46 := F46.chg hc13 (Dj.of L0_0 G7)
          replace F47 := F47.chg hc13 (Dj.of L0_1 G7)
          replace F48 := F48.chg hc13 (Dj.of L0_2 G7)
          replace F49 := F49.chg hc13 (dj1 (Dj.of L0 G7))
          replace F50 := F50.chg hc13 D10
          replace F51 := F51.chg hc13 D11
          replace F52 := F52.chg hc13 D12
          replace F54 := F54.chg hc13 (D16).symm
          replace hB := hB.inS hc13 (inLow G7)
          replace hZ := hc13.z hZ
          refine wP 1 [(15, .slice A10 (l13 ++ (([x18] : List Int))).length cap10)] <| wE ?_
          obtain rfl := someE (x := (l13 ++ (([x18] : List Int)))) hm
          exact eX_J (fun hst => ⟨l13 ++ (([x18] : List Int)), A10, cap10, fp9, rfl, fO hst, F46, F47, F48, F49, F50, F51, F52, F55, G9, D17, D18, D19, hB, hZ⟩)
         have hm := condF hb14 hm
         refine cW_skip ?_
         obtain rfl := someE (x := l13) hm
         exact eX_J (fun hst => ⟨l13, A8, cap8, fp7, rfl, fO hst, F46, F47, F48, F49, F50, F51, F52, F53, G7, D10, D11, D12, hB, hZ⟩)
        rintro a' w22 ⟨l14, A9, cap9, fp8, hJ, hF9, F56, F57, F58, F59, F60, F61, F62, F63, G10, D21, D22, D23, hB, hZ⟩
        subst hJ
        refine gX hF9 <| eX_block <| eX_then <| cW_region <| wP 3 [(16, ii (wr (x17 + 1))), (120, ii (wr (x17 + 1))), (119, ii x17)] <| wE ?_
        obtain rfl := someE (x := (Ctl.next ((l14, wr (x17 + 1))))) hm
        exact eX_next hx14 (fun hst => ⟨l14, A9, cap9, fp8, wr (x17 + 1), rfl, fO hst, F56, F57, F58, F59, F60, F61, F62, F63, G10, D21, D22, D23, hB, hZ⟩)
       have hm := condF hb13 hm
       refine cW_exit <| eX_then_exit ?_
       obtain rfl := someE (x := Ctl.out l13) hm
       refine eX_outX hx14 (fun hr8 => ?_)
       replace hr8 := hr8.symm
       subst hr8
       refine eX_block_hit ?_
       exact eX_J (fun hst => ⟨l13, A8, cap8, fp7, rfl, fO hst, F46, F47, F48, F49, F50, F51, F52, F53, G7, D10, D11, D12, hB, hZ⟩)
      rintro a' w23 ⟨l12, A7, cap7, fp6, hJ, hF10, F64, F65, F66, F67, F68, F69, F70, F71, G11, D24, D25, D26, hB, hZ⟩
      subst hJ
      refine gX hF10 <| eX_then <| sR <| wP 3 [(139, .bool (x12 == 0)), (138, .bool (x12 == 0)), (137, ii x12)] <| wS_bool (x12 == 0) (fun hb15 => ?_) (fun hb15 => ?_)
      ·have hm := condT hb15 hm
       rewrite [hb15]
       refine wP 4 [(143, .bool (true)), (142, undef), (141, undef), (140, undef)] <| wN <| cCt <| sR <| wP 2 [(12, .slice A7 l12.length cap7), (144, .slice A7 l12.length cap7)] <| wN <| cW_region <| wP 2 [(13, ii x13), (145, ii x13)] <| wE ?_
       obtain rfl := someE (x := ((l12, x13))) hm
       exact eX_J (fun hst => ⟨l12, A7, cap7, fp6, x13, rfl, fO hst, F64, F65, F66, F67, F68, F69, F71, G11, D24, D25, hB, hZ⟩)
      have hm := condF hb15 hm
      rewrite [hb15]
      refine wP 2 [(141, .slice A5 l10.length cap5), (140, .slice A7 l12.length cap7)] ?_
      obtain ⟨y4, hy4, hm⟩ := bindE hm
      refine sC 142 [.slice A7 l12.length cap7, .slice A5 l10.length cap5] ent97 (c_spec_l03Less hy4 (F71.sl encI_ok) (F70.sl encI_ok)) ?_
      rintro _ w24 ⟨rfl, hc14⟩
      replace F64 := F64.c hc14
      replace F65 := F65.c hc14
      replace F66 := F66.c hc14
      replace F67 := F67.c hc14
      replace F68 := F68.c hc14
      replace F69 := F69.c hc14
      replace F70 := F70.c hc14
      replace F71 := F71.c hc14
      replace hB := hB.q hc14
      replace hZ := hc14.z hZ
      refine ⟨.bool (y4), rfl, ?_⟩
      refine wP 1 [(143, .bool (y4))] <| wN <| cC y4 (fun hb16 => ?_) (fun hb16 => ?_)
      ·have hm := condT hb16 hm
       refine sR <| wP 2 [(12, .slice A7 l12.length cap7), (144, .slice A7 l12.length cap7)] <| wN <| cW_region <| wP 2 [(13, ii x13), (145, ii x13)] <| wE ?_
       obtain rfl := someE (x := ((l12, x13))) hm
       exact eX_J (fun hst => ⟨l12, A7, cap7, fp6, x13, rfl, fO hst, F64, F65, F66, F67, F68, F69, F71, G11, D24, D25, hB, hZ⟩)
      have hm := condF hb16 hm
      refine cW_skip ?_
      obtain rfl := someE (x := ((l10, x12))) hm
      exact eX_J (fun hst => ⟨l10, A5, cap5, fp4, x12, rfl, fO hst, F64, F65, F66, F67, F68, F69, F70, G5, D5, D6, hB, hZ⟩)
     rintro a' w25 ⟨l11, A6, cap6, fp5, x16, hJ, hF11, F72, F73, F74, F75, F76, F77, F78, G12, D27, D28, hB, hZ⟩
     subst hJ
     refine gX hF11 <| eX_block <| eX_then <| cW_region <| wP 5 [(14, ii (andI (wr (x13 - 1)) x10)), (95, ii (andI (wr (x13 - 1)) x10)), (94, ii x10), (93, ii (wr (x13 - 1))), (92, ii x13)] <| wE ?_
     obtain rfl := someE (x := (Ctl.next ((l11, x16, andI (wr (x13 - 1)) x10)))) hm
     exact eX_next hx11 (fun hst => ⟨l11, A6, cap6, fp5, x16, andI (wr (x13 - 1)) x10, rfl, fO hst, F72, F73, F74, F75, F76, F77, F78, G12, D27, D28, hB, hZ⟩)
    have hm := condF hb10 hm
    refine cW_exit <| eX_then_exit ?_
    obtain rfl := someE (x := (Ctl.out ((l10, x12)))) hm
    refine eX_outX hx11 (fun hr9 => ?_)
    replace hr9 := hr9.symm
    subst hr9
    refine eX_block_hit ?_
    exact eX_J (fun hst => ⟨l10, A5, cap5, fp4, x12, rfl, fO hst, F38, F39, F40, F41, F42, F43, F44, G5, D5, D6, hB, hZ⟩)
   rintro a' w26 ⟨l9, A4, cap4, fp3, x11, hJ, hF12, F79, F80, F81, F82, F83, F84, F85, G13, D29, D30, hB, hZ⟩
   subst hJ
   refine gX hF12 <| eX_then <| sR <| wP 2 [(147, .slice A4 l9.length cap4), (146, .slice A3 l8.length cap3)] <| wS_row1 (k := 1) (enc := encI) (l := l9) (d := 148) (t := 28) (T := 24) (B := A4) (c := cap4) (by kernel_rfl) el28 F85 ?_
   intro b6 w27 G14 F86 hc15
   have D31 : Dj [b1] ([b6] ++ fp3) := Dj.app (Dj.of F83.low (low1 G14)) D29
   have D32 : Dj (fp2 ++ fr2) ([b6] ++ fp3) := Dj.app (Dj.of F84.low (low1 G14)) D30
   replace F79 := F79.c hc15
   replace F80 := F80.c hc15
   replace F81 := F81.c hc15
   replace F82 := F82.c hc15
   replace F83 := F83.c hc15
   replace F84 := F84.c hc15
   replace F85 := F85.c hc15
   replace hB := hB.q hc15
   replace G14 := Nat.le_trans hZ G14
   replace G14 := lowApp (low1 G14) G13
   replace hZ := hc15.z hZ
   replace F85 := (F85.sl encI_ok)
   obtain ⟨_, hk3, hm⟩ := bindE hm
   replace hk3 := apE hk3
   refine wS_appendR (k := 1) (enc := encI) (ll := (l8 : List (List Int))) (ll2 := (([l9] : List (List Int)) : List (List Int))) (d := 149) (t := 28) (T := 24) (A := A3) (A2 := (some ⟨b6, 0, none⟩)) (cap := cap3) (cap2 := 1) (by kernel_rfl) el28 F84 F86 (by rfl) D32 hk3 ?_
   intro w28 fp10 A11 cap11 F87 hc16 hp2
   have G15 := lowApp (low_ap (low_inl G3) hZ hp2) (lowApp (low_inr G3) (low_inr G14))
   have D33 : Dj [b1] (fp10 ++ (fr2 ++ fp3)) := Dj.app (Dj.ap (Dj.inl D2) F83.low hp2) (Dj.app (Dj.inr D2) (Dj.inr D31))
   replace F79 := F79.chg hc16 (Dj.inl (Dj.of L0_0 G3))
   replace F80 := F80.chg hc16 (Dj.inl (Dj.of L0_1 G3))
   replace F81 := F81.chg hc16 (Dj.inl (Dj.of L0_2 G3))
   replace F82 := F82.chg hc16 (dj1 (Dj.inl (Dj.of L0 G3)))
   replace F83 := F83.chg hc16 (Dj.inl D2)
   replace hB := hB.inS hc16 (memS_inl (inLow G3))
   replace hZ := hc16.z hZ
   refine wP 1 [(10, .slice A11 (l8 ++ (([l9] : List (List Int)))).length cap11)] <| wN <| cW_region <| wP 4 [(11, ii (andNI x10 x11)), (152, ii (andNI x10 x11)), (151, ii x11), (150, ii x10)] <| wE <| eX_block ?_
   obtain rfl := someE (x := (Ctl.next ((l8 ++ (([l9] : List (List Int))), andNI x10 x11)))) hm
   exact eX_next hx10 (fun hst => ⟨l8 ++ (([l9] : List (List Int))), A11, cap11, fp10, (fr2 ++ fp3), andNI x10 x11, rfl, fO hst, F79, F80, F81, F82, F83, F87, G15, D33, hB, hZ⟩)
  have hm := condF hb9 hm
  refine cW_exit <| eX_then_exit ?_
  obtain rfl := someE (x := Ctl.out l8) hm
  refine eX_outX hx10 (fun hr10 => ?_)
  replace hr10 := hr10.symm
  subst hr10
  refine eX_block_hit ?_
  exact eX_J (fun hst => ⟨l8, A3, cap3, fp2, fr2, rfl, fO hst, F36, G3, hB, hZ⟩)
 rintro a' w29 ⟨l7, A1, cap1, fp1, fr1, hJ, hF13, F88, G16, hB, hZ⟩
 subst hJ
 refine gX hF13 <| eX_then <| sR <| wP 3 [(3, .bool (true)), (2, .slice A1 l7.length cap1), (153, .slice A1 l7.length cap1)] <| wN <| cW_ret ?_
 obtain rfl := someE (x := ((l7, true))) hm
 refine rB (.slice A1 l7.length cap1) (.bool (true)) 2 3 ?_
 exact ⟨A1, cap1, fp1, fr1, rfl, F88, G16, hB⟩

set_option maxRecDepth 100000 in
/-- spec.l00Max -/
theorem c_spec_l00Max {w0 : World} {p0 : Int} {p1 : Int} {r : (Int)} (hm : m_spec_l00Max p0 p1 = some r)  :
  Calls Tryd.prog 99 #[ii p0, ii p1] w0 fun e w' => e = .returned (ii r) ∧ Chg [] w0 w' := by
 have hB : Chg [] w0 w0 := Chg.refl _ _
 have hZ := Nat.le_refl w0.heap.size
 unfold m_spec_l00Max at hm
 refine enterE (N := 10) Tryd.func99 (by rfl) Tryd.ntmps99 (by simp) [(0, ii p0), (1, ii p1)] (by rfl) (by kernel_rfl) (fun a => ?_)
 refine sR <| wP 1 [(4, ii 0)] <| wN <| cW_seq <| sR <| wP 3 [(7, .bool (decide (p0 > p1))), (6, ii p1), (5, ii p0)] <| wN <| cC (decide (p0 > p1)) (fun hb1 => ?_) (fun hb1 => ?_)
 ·have hm := condT hb1 hm
  refine sR <| wP 2 [(4, ii p0), (8, ii p0)] <| wN <| cW_ret <| eX_then_ret ?_
  obtain rfl := someE (x := p0) hm
  refine rA (ii p0) 4 ?_
  exact ⟨rfl, hB⟩
 have hm := condF hb1 hm
 refine cW_skip <| eX_then <| sR <| wP 2 [(4, ii p1), (9, ii p1)] <| wN <| cW_ret ?_
 obtain rfl := someE (x := p1) hm
 refine rA (ii p1) 4 ?_
 exact ⟨rfl, hB⟩

set_option maxRecDepth 100000 in
/-- spec.l00Min -/
theorem c_spec_l00Min {w0 : World} {p0 : Int} {p1 : Int} {r : (Int)} (hm : m_spec_l00Min p0 p1 = some r)  :
  Calls Tryd.prog 100 #[ii p0, ii p1] w0 fun e w' => e = .returned (ii r) ∧ Chg [] w0 w' := by
 have hB : Chg [] w0 w0 := Chg.refl _ _
 have hZ := Nat.le_refl w0.heap.size
 unfold m_spec_l00Min at hm
 refine enterE (N := 10) Tryd.func100 (by rfl) Tryd.ntmps100 (by simp) [(0, ii p0), (1, ii p1)] (by rfl) (by kernel_rfl) (fun a => ?_)
 refine sR <| wP 1 [(4, ii 0)] <| wN <| cW_seq <| sR <| wP 3 [(7, .bool (decide (p0 < p1))), (6, ii p1), (5, ii p0)] <| wN <| cC (decide (p0 < p1)) (fun hb1 => ?_) (fun hb1 => ?_)
 ·have hm := condT hb1 hm
  refine sR <| wP 2 [(4, ii p0), (8, ii p0)] <| wN <| cW_ret <| eX_then_ret ?_
  obtain rfl := someE (x := p0) hm
  refine rA (ii p0) 4 ?_
  exact ⟨rfl, hB⟩
 have hm := condF hb1 hm
 refine cW_skip <| eX_then <| sR <| wP 2 [(4, ii p1), (9, ii p1)] <| wN <| cW_ret ?_
 obtain rfl := someE (x := p1) hm
 refine rA (ii p1) 4 ?_
 exact ⟨rfl, hB⟩

set_option maxRecDepth 100000 in
/-- spec.l03Pieces -/
theorem c_spec_l03Pieces_bimplChannel {w0 : World} {l0_0 : List Int} {A0_0 : Option Addr} {cap0_0 : Nat} {fp0_0 : List Nat} {l0_1 : List Int} {A0_1 : Option Addr} {cap0_1 : Nat} {fp0_1 : List Nat} {b0 : Nat} {r : (List (List Int))} (hm : m_spec_l03Pieces_bimplChannel l0_0 l0_1 = some r) (F0_0 : Sl 1 encI w0 fp0_0 A0_0 l0_0) (F0_1 : Sl 1 encI w0 fp0_1 A0_1 l0_1) (F0 : Cl w0 b0 26 [.slice A0_0 l0_0.length cap0_0, .slice A0_1 l0_1.length cap0_1]) :
  Calls Tryd.prog 98 #[pt b0] w0 fun e w' => ∃ A100 cap100 fp100 fr100, e = .returned (.slice A100 r.length cap100) ∧ OwR 1 encI 24 2 w' fp100 fr100 A100 cap100 r ∧ (∀ x ∈ fp100 ++ fr100, w0.heap.size ≤ x) ∧ Chg [] w0 w' := by
 have L0_0 := F0_0.low
 have L0_1 := F0_1.low
 have L0 := lt1 F0.lt
 have hB : Chg [] w0 w0 := Chg.refl _ _
 have hZ := Nat.le_refl w0.heap.size
 unfold m_spec_l03Pieces_bimplChannel at hm
 refine enterE (N := 66) Tryd.func98 (by rfl) Tryd.ntmps98 (by simp) [(0, pt b0)] (by rfl) (by kernel_rfl) (fun a => ?_)
 refine sR <| wP 1 [(2, .slice none 0 0)] <| wN <| sR <| wS_rows0 (k := 1) (enc := encI) (d := 8) (t := 28) (T := 24) (T2 := 2) (by kernel_rfl) el28 ?_
 intro b1 w1 G1 F1 hc1
 replace F0_0 := F0_0.c hc1
 replace F0_1 := F0_1.c hc1
 replace F0 := F0.c hc1
 replace hB := hB.q hc1
 replace G1 := Nat.le_trans hZ G1
 replace G1 := low1 G1
 replace hZ := hc1.z hZ
 replace G1 := lowApp G1 lowNil
 refine wP 1 [(3, .slice (some ⟨b1, 0, none⟩) (([] : List (List Int))).length 0)] <| wN <| sR <| wP 1 [(9, pt b0)] ?_
 obtain ⟨y1, hy1, hm⟩ := bindE hm
 refine sC 10 [pt b0] ent55 (c_spec_l03Nets_bimplChannel hy1 F0_0 F0_1 F0) ?_
 rintro _ w2 ⟨A1, cap1, fp1, rfl, F2, G2, hc2⟩
 have D1 : Dj ([b1] ++ []) fp1 := Dj.of F1.low G2
 replace F0_0 := F0_0.c hc2
 replace F0_1 := F0_1.c hc2
 replace F0 := F0.c hc2
 replace F1 := F1.c hc2
 replace hB := hB.q hc2
 replace G2 := low_le hZ G2
 replace hZ := hc2.z hZ
 refine ⟨.slice A1 y1.length cap1, rfl, ?_⟩
 refine wP 1 [(4, .slice A1 y1.length cap1)] <| wN <| cW_seq <| sR <| wP 1 [(5, ii 0)] <| wN ?_
 obtain ⟨r1, hr1, hm⟩ := bindE hm
 have hm1 := hm
 refine cW_cut (fun a' w' => ∃ l1 : List (List Int), ∃ A3 : Option Addr, ∃ cap3 : Nat, ∃ fp2 : List Nat, ∃ fr1 : List Nat, l1 = r1 ∧ Fr 66 [(3, .slice A3 l1.length cap3)] a' ∧ OwR 1 encI 24 2 w' fp2 fr1 A3 cap3 l1 ∧ (∀ x ∈ (fp2 ++ fr1), w0.heap.size ≤ x) ∧ Chg [] w0 w' ∧ w0.heap.size ≤ w'.heap.size) ?_ ?_
 ·refine cW_block ?_
  refine cW_loop _ (fun (s1 : (List (List Int)) × Int) a' w' => ∃ l2 : List (List Int), ∃ A4 : Option Addr, ∃ cap4 : Nat, ∃ fp3 : List Nat, ∃ fr2 : List Nat, ∃ x1 : Int, (l2, x1) = s1 ∧ Fr 66 [(0, pt b0), (3, .slice A4 l2.length cap4), (4, .slice A1 y1.length cap1), (5, ii x1)] a' ∧ Sl 1 encI w' fp0_0 A0_0 l0_0 ∧ Sl 1 encI w' fp0_1 A0_1 l0_1 ∧ Cl w' b0 26 [.slice A0_0 l0_0.length cap0_0, .slice A0_1 l0_1.length cap0_1] ∧ Ow 1 encI 2 w' fp1 A1 cap1 y1 ∧ OwR 1 encI 24 2 w' fp3 fr2 A4 cap4 l2 ∧ (∀ x ∈ (fp3 ++ fr2), w0.heap.size ≤ x) ∧ Dj fp1 (fp3 ++ fr2) ∧ Chg [] w0 w' ∧ w0.heap.size ≤ w'.heap.size) hr1 (fun hst => ⟨([] : List (List Int)), (some ⟨b1, 0, none⟩), 0, [b1], [], 0, rfl, fO hst, F0_0, F0_1, F0, F2, F1, G1, (D1).symm, hB, hZ⟩) ?_
  rintro _ c1 a' w3 ⟨l2, A4, cap4, fp3, fr2, x1, rfl, hF1, F3, F4, F5, F6, F7, G3, D2, hB, hZ⟩ hx1
  refine gO hF1 ?_
  have hm := hx1
  unfold m_spec_l03Pieces_bimplChannel_s3 at hm
  refine cW_seq <| sR <| wP 4 [(14, .bool (decide (x1 < ((y1.length : Int))))), (13, ii (y1.length : Int)), (12, .slice A1 y1.length cap1), (11, ii x1)] <| wN <| cC (decide (x1 < ((y1.length : Int)))) (fun hb1 => ?_) (fun hb1 => ?_)
  ·have hm := condT hb1 hm
   refine cW_skip <| eX_then <| cW_seq <| cW_block <| sR <| wP 1 [(6, ii ((-1)))] <| wN <| sR <| wP 1 [(7, ii 0)] <| wN ?_
   obtain ⟨r2, hr2, hm⟩ := bindE hm
   have hm2 := hm
   refine cW_cut (fun a' w' => ∃ l3 : List (List Int), ∃ A5 : Option Addr, ∃ cap5 : Nat, ∃ fp4 : List Nat, ∃ fr3 : List Nat, l3 = r2 ∧ Fr 66 [(0, pt b0), (3, .slice A5 l3.length cap5), (4, .slice A1 y1.length cap1), (5, ii x1)] a' ∧ Sl 1 encI w' fp0_0 A0_0 l0_0 ∧ Sl 1 encI w' fp0_1 A0_1 l0_1 ∧ Cl w' b0 26 [.slice A0_0 l0_0.length cap0_0, .slice A0_1 l0_1.length cap0_1] ∧ Ow 1 encI 2 w' fp1 A1 cap1 y1 ∧ OwR 1 encI 24 2 w' fp4 fr3 A5 cap5 l3 ∧ (∀ x ∈ (fp4 ++ fr3), w0.heap.size ≤ x) ∧ Dj fp1 (fp4 ++ fr3) ∧ Chg [] w0 w' ∧ w0.heap.size ≤ w'.heap.size) ?_ ?_
   ·refine cW_block ?_
    refine cW_loop _ (fun (s2 : (List (List Int)) × Int × Int) a' w' => ∃ l4 : List (List Int), ∃ A6 : Option Addr, ∃ cap6 : Nat, ∃ fp5 : List Nat, ∃ fr4 : List Nat, ∃ x2 : Int, ∃ x3 : Int, (l4, x2, x3) = s2 ∧ Fr 66 [(0, pt b0), (3, .slice A6 l4.length cap6), (4, .slice A1 y1.length cap1), (5, ii x1), (6, ii x2), (7, ii x3)] a' ∧ Sl 1 encI w' fp0_0 A0_0 l0_0 ∧ Sl 1 encI w' fp0_1 A0_1 l0_1 ∧ Cl w' b0 26 [.slice A0_0 l0_0.length cap0_0, .slice A0_1 l0_1.length cap0_1] ∧ Ow 1 encI 2 w' fp1 A1 cap1 y1 ∧ OwR 1 encI 24 2 w' fp5 fr4 A6 cap6 l4 ∧ (∀ x ∈ (fp5 ++ fr4), w0.heap.size ≤ x) ∧ Dj fp1 (fp5 ++ fr4) ∧ Chg [] w0 w' ∧ w0.heap.size ≤ w'.heap.size) hr2 (fun hst => ⟨l2, A4, cap4, fp3, fr2, (-1), 0, rfl, fO hst, F3, F4, F5, F6, F7, G3, D2, hB, hZ⟩) ?_
    rintro _ c2 a' w4 ⟨l4, A6, cap6, fp5, fr4, x2, x3, rfl, hF2, F8, F9, F10, F11, F12, G4, D3, hB, hZ⟩ hx2
    refine gO hF2 ?_
    have hm := hx2
    unfold m_spec_l03Pieces_bimplChannel_s4 at hm
    refine cW_seq <| sR <| wP 4 [(20, pt b0), (19, pt b0), (18, pt b0), (17, ii x3)] <| sL 21 ⟨b0, 0, none⟩ (.slice A0_0 l0_0.length cap0_0) vt24 ((F10).cell 0) <| wP 2 [(23, .bool (decide (x3 < ((l0_0.length : Int))))), (22, ii (l0_0.length : Int))] <| wN <| cC (decide (x3 < ((l0_0.length : Int)))) (fun hb2 => ?_) (fun hb2 => ?_)
    ·have hm := condT hb2 hm
     refine cW_skip <| eX_then <| cW_seq <| cW_block <| cW_seq <| cW_seq <| cW_drawnTail [] 24 (by kernel_rfl) (by kernel_rfl) (fun w5 hc3 => ?_)
     replace F8 := F8.c hc3
     replace F9 := F9.c hc3
     replace F10 := F10.c hc3
     replace F11 := F11.c hc3
     replace F12 := F12.c hc3
     replace hB := hB.q hc3
     replace hZ := hc3.z hZ
     have hS := Chg.refl [] w5
     have Z1 := F8
     have Z2 := F9
     have Z3 := F10
     have Z4 := F11
     have Z5 := F12
     refine hT [0, 1, 2] [(28, pt b0), (27, pt b0), (26, pt b0)] <| hL 3 29 ⟨b0, 0, none⟩ (.slice A0_0 l0_0.length cap0_0) vt24 (fun W hW => (Z3.c hW).cell 0) ?_
     refine hT [4] [(30, ii x3)] ?_
     obtain ⟨x4, hx3, hm⟩ := bindE hm
     refine hI 5 31 A0_0 l0_0.length cap0_0 .i64 x3 sl24 (F8.is hx3) <| hL 6 32 (elA A0_0 1 (x3) 0) (ii x4) vt2 (fun W hW => Sl.cell (Z1.c hW) hx3 0 (by rfl)) ?_
     refine hT [7, 8] [(34, ii x1), (33, .slice A1 y1.length cap1)] ?_
     obtain ⟨x5, hx4, hm⟩ := bindE hm
     refine hI 9 35 A1 y1.length cap1 .i64 x1 sl24 ((F11.sl encI_ok).is hx4) <| hL 10 36 (elA A1 1 (x1) 0) (ii x5) vt2 (fun W hW => Sl.cell ((Z4.c hW).sl encI_ok) hx4 0 (by rfl)) ?_
     refine hT [11, 12] [(38, .bool (x4 != x5)), (37, .bool (x4 != x5))] <| wH_bool (x4 != x5) (fun hb3 => ?_) (fun hb3 => ?_)
     ·have hm := condT hb3 hm
      rewrite [hb3]
      refine hT [13, 14, 15] [(41, .pointer (some ⟨b0, 1, none⟩)), (40, pt b0), (39, pt b0)] <| hL 16 42 ⟨b0, 1, none⟩ (.slice A0_1 l0_1.length cap0_1) vt24 (fun W hW => (Z3.c hW).cell 1) ?_
      refine hT [17] [(43, ii x3)] ?_
      obtain ⟨x6, hx5, hm⟩ := bindE hm
      refine hI 18 44 A0_1 l0_1.length cap0_1 .i64 x3 sl24 (F9.is hx5) <| hL 19 45 (elA A0_1 1 (x3) 0) (ii x6) vt2 (fun W hW => Sl.cell (Z2.c hW) hx5 0 (by rfl)) ?_
      refine hT [20, 21] [(47, ii x1), (46, .slice A1 y1.length cap1)] ?_
      obtain ⟨x7, hx6, hm⟩ := bindE hm
      refine hI 22 48 A1 y1.length cap1 .i64 x1 sl24 ((F11.sl encI_ok).is hx6) <| hL 23 49 (elA A1 1 (x1) 0) (ii x7) vt2 (fun W hW => Sl.cell ((Z4.c hW).sl encI_ok) hx6 0 (by rfl)) ?_
      refine wD <| eX_tail <| wP 2 [(51, .bool (x6 != x7)), (50, .bool (x6 != x7))] <| wN <| cP [(0, pt b0), (3, .slice A6 l4.length cap6), (4, .slice A1 y1.length cap1), (5, ii x1), (6, ii x2), (7, ii x3), (51, .bool (x6 != x7))] (fun a1 => ?_)
      refine cC (x6 != x7) (fun hb4 => ?_) (fun hb4 => ?_)
      ·have hm := condT hb4 hm
       refine cW_exit <| eX_then_exit <| eX_block_hit <| eX_then <| cW_region <| wP 3 [(7, ii (wr (x3 + 1))), (25, ii (wr (x3 + 1))), (24, ii x3)] <| wE ?_
       obtain rfl := someE (x := (Ctl.next ((l4, x2, wr (x3 + 1))))) hm
       exact eX_next hx2 (fun hst => ⟨l4, A6, cap6, fp5, fr4, x2, wr (x3 + 1), rfl, fO hst, F8, F9, F10, F11, F12, G4, D3, hB, hZ⟩)
      have hm := condF hb4 hm
      refine cW_skip <| eX_then ?_
      obtain ⟨s3, hs1, hm⟩ := bindE hm
      refine cW_cut (fun a' w' => ∃ l5 : List (List Int), ∃ A7 : Option Addr, ∃ cap7 : Nat, ∃ fp6 : List Nat, ∃ fr5 : List Nat, ∃ x8 : Int, (l5, x8) = s3 ∧ Fr 66 [(0, pt b0), (3, .slice A7 l5.length cap7), (4, .slice A1 y1.length cap1), (5, ii x1), (6, ii x8), (7, ii x3)] a' ∧ Sl 1 encI w' fp0_0 A0_0 l0_0 ∧ Sl 1 encI w' fp0_1 A0_1 l0_1 ∧ Cl w' b0 26 [.slice A0_0 l0_0.length cap0_0, .slice A0_1 l0_1.length cap0_1] ∧ Ow 1 encI 2 w' fp1 A1 cap1 y1 ∧ OwR 1 encI 24 2 w' fp6 fr5 A7 cap7 l5 ∧ (∀ x ∈ (fp6 ++ fr5), w0.heap.size ≤ x) ∧ Dj fp1 (fp6 ++ fr5) ∧ Chg [] w0 w' ∧ w0.heap.size ≤ w'.heap.size) ?_ ?_
      ·have hm := hs1
       refine cW_seq ?_
       obtain ⟨s4, hs2, hm⟩ := bindE hm
       refine cW_cut (fun a' w' => ∃ l6 : List (List Int), ∃ A8 : Option Addr, ∃ cap8 : Nat, ∃ fp7 : List Nat, ∃ fr6 : List Nat, l6 = s4 ∧ Fr 66 [(0, pt b0), (3, .slice A8 l6.length cap8), (4, .slice A1 y1.length cap1), (5, ii x1), (7, ii x3)] a' ∧ Sl 1 encI w' fp0_0 A0_0 l0_0 ∧ Sl 1 encI w' fp0_1 A0_1 l0_1 ∧ Cl w' b0 26 [.slice A0_0 l0_0.length cap0_0, .slice A0_1 l0_1.length cap0_1] ∧ Ow 1 encI 2 w' fp1 A1 cap1 y1 ∧ OwR 1 encI 24 2 w' fp7 fr6 A8 cap8 l6 ∧ (∀ x ∈ (fp7 ++ fr6), w0.heap.size ≤ x) ∧ Dj fp1 (fp7 ++ fr6) ∧ Chg [] w0 w' ∧ w0.heap.size ≤ w'.heap.size) ?_ ?_
       ·have hm := hs2
        refine sR <| wP 2 [(53, .bool (decide (x2 ≥ 0))), (52, ii x2)] <| wN <| cC (decide (x2 ≥ 0)) (fun hb5 => ?_) (fun hb5 => ?_)
        ·have hm := condT hb5 hm
         refine cW_region <| wP 3 [(56, ii x1), (55, .slice A1 y1.length cap1), (54, .slice A6 l4.length cap6)] ?_
         obtain ⟨x9, hx7, hm⟩ := bindE hm
         refine sI 57 A1 y1.length cap1 .i64 x1 sl24 ((F11.sl encI_ok).is hx7) <| sL 58 (elA A1 1 (x1) 0) (ii x9) vt2 (Sl.cell (F11.sl encI_ok) hx7 0 (by rfl)) <| wP 2 [(60, ii x3), (59, ii x2)] <| wS_bs (enc := encI) ([x9, x2, x3] : List Int) [ii x9, ii x2, ii x3] (d := 61) (t := 24) (T := 2) (n := 3) (ps := [(0, ii x9), (1, ii x2), (2, ii x3)]) (by kernel_rfl) el24 encI_ok (by rfl) (by omega) (by omega) (by kernel_rfl) (by rfl) ?_
         intro b2 w6 G5 F13 hc4
         have D4 : Dj fp1 [b2] := Dj.of F11.low (low1 G5)
         have D5 : Dj (fp5 ++ fr4) [b2] := Dj.of F12.low (low1 G5)
         replace F8 := F8.c hc4
         replace F9 := F9.c hc4
         replace F10 := F10.c hc4
         replace F11 := F11.c hc4
         replace F12 := F12.c hc4
         replace hB := hB.q hc4
         replace G5 := Nat.le_trans hZ G5
         replace G5 := low1 G5
         replace hZ := hc4.z hZ
         refine wS_row1 (k := 1) (enc := encI) (l := ([x9, x2, x3] : List Int)) (d := 62) (t := 28) (T := 24) (B := (some ⟨b2, 0, none⟩)) (c := 3) (by kernel_rfl) el28 F13 ?_
         intro b3 w7 G6 F14 hc5
         have D6 : Dj fp1 ([b3] ++ [b2]) := Dj.app (Dj.of F11.low (low1 G6)) D4
         have D7 : Dj (fp5 ++ fr4) ([b3] ++ [b2]) := Dj.app (Dj.of F12.low (low1 G6)) D5
         replace F8 := F8.c hc5
         replace F9 := F9.c hc5
         replace F10 := F10.c hc5
         replace F11 := F11.c hc5
         replace F12 := F12.c hc5
         replace F13 := F13.c hc5
         replace hB := hB.q hc5
         replace G6 := Nat.le_trans hZ G6
         replace G6 := lowApp (low1 G6) G5
         replace hZ := hc5.z hZ
         replace F13 := (F13.sl encI_ok)
         obtain ⟨_, hk1, hm⟩ := bindE hm
         replace hk1 := apE hk1
         refine wS_appendR (k := 1) (enc := encI) (ll := (l4 : List (List Int))) (ll2 := (([([x9, x2, x3] : List Int)] : List (List Int)) : List (List Int))) (d := 63) (t := 28) (T := 24) (A := A6) (A2 := (some ⟨b3, 0, none⟩)) (cap := cap6) (cap2 := 1) (by kernel_rfl) el28 F12 F14 (by rfl) D7 hk1 ?_
         intro w8 fp8 A9 cap9 F15 hc6 hp1
         have G7 := lowApp (low_ap (low_inl G4) hZ hp1) (lowApp (low_inr G4) (low_inr G6))
         have D8 : Dj fp1 (fp8 ++ (fr4 ++ [b2])) := Dj.app (Dj.ap (Dj.inl D3) F11.low hp1) (Dj.app (Dj.inr D3) (Dj.inr D6))
         replace F8 := F8.chg hc6 (Dj.inl (Dj.of L0_0 G4))
         replace F9 := F9.chg hc6 (Dj.inl (Dj.of L0_1 G4))
         replace F10 := F10.chg hc6 (dj1 (Dj.inl (Dj.of L0 G4)))
         replace F11 := F11.chg hc6 (Dj.inl D3)
         replace hB := hB.inS hc6 (memS_inl (inLow G4))
         replace hZ := hc6.z hZ
         refine wP 1 [(3, .slice A9 (l4 ++ (([([x9, x2, x3] : List Int)] : List (List Int)))).length cap9)] <| wE ?_
         obtain rfl := someE (x := (l4 ++ (([([x9, x2, x3] : List Int)] : List (List Int))))) hm
         exact eX_J (fun hst => ⟨l4 ++ (([([x9, x2, x3] : List Int)] : List (List Int))), A9, cap9, fp8, (fr4 ++ [b2]), rfl, fO hst, F8, F9, F10, F11, F15, G7, D8, hB, hZ⟩)
        have hm := condF hb5 hm
        refine cW_skip ?_
        obtain rfl := someE (x := l4) hm
        exact eX_J (fun hst => ⟨l4, A6, cap6, fp5, fr4, rfl, fO hst, F8, F9, F10, F11, F12, G4, D3, hB, hZ⟩)
       rintro a' w9 ⟨l6, A8, cap8, fp7, fr6, hJ, hF3, F16, F17, F18, F19, F20, G8, D9, hB, hZ⟩
       subst hJ
       refine gX hF3 <| eX_then <| cW_region <| wP 2 [(6, ii x3), (64, ii x3)] <| wE ?_
       obtain rfl := someE (x := ((l6, x3))) hm
       exact eX_J (fun hst => ⟨l6, A8, cap8, fp7, fr6, x3, rfl, fO hst, F16, F17, F18, F19, F20, G8, D9, hB, hZ⟩)
      rintro a' w10 ⟨l5, A7, cap7, fp6, fr5, x8, hJ, hF4, F21, F22, F23, F24, F25, G9, D10, hB, hZ⟩
      subst hJ
      refine gX hF4 <| eX_block <| eX_then <| cW_region <| wP 3 [(7, ii (wr (x3 + 1))), (25, ii (wr (x3 + 1))), (24, ii x3)] <| wE ?_
      obtain rfl := someE (x := (Ctl.next ((l5, x8, wr (x3 + 1))))) hm
      exact eX_next hx2 (fun hst => ⟨l5, A7, cap7, fp6, fr5, x8, wr (x3 + 1), rfl, fO hst, F21, F22, F23, F24, F25, G9, D10, hB, hZ⟩)
     have hm := condF hb3 hm
     rewrite [hb3]
     refine hT [13, 14, 15, 16, 17, 18, 19, 20, 21, 22, 23] [(49, undef), (48, undef), (47, undef), (46, undef), (45, undef), (44, undef), (43, undef), (42, undef), (41, undef), (40, undef), (39, undef)] <| wD <| eX_tail <| wP 2 [(51, .bool (false)), (50, undef)] <| wN <| cP [(0, pt b0), (3, .slice A6 l4.length cap6), (4, .slice A1 y1.length cap1), (5, ii x1), (6, ii x2), (7, ii x3), (51, .bool (false))] (fun a2 => ?_)
     refine cCf <| cW_skip <| eX_then ?_
     obtain ⟨s5, hs3, hm⟩ := bindE hm
     refine cW_cut (fun a' w' => ∃ l7 : List (List Int), ∃ A10 : Option Addr, ∃ cap10 : Nat, ∃ fp9 : List Nat, ∃ fr7 : List Nat, ∃ x10 : Int, (l7, x10) = s5 ∧ Fr 66 [(0, pt b0), (3, .slice A10 l7.length cap10), (4, .slice A1 y1.length cap1), (5, ii x1), (6, ii x10), (7, ii x3)] a' ∧ Sl 1 encI w' fp0_0 A0_0 l0_0 ∧ Sl 1 encI w' fp0_1 A0_1 l0_1 ∧ Cl w' b0 26 [.slice A0_0 l0_0.length cap0_0, .slice A0_1 l0_1.length cap0_1] ∧ Ow 1 encI 2 w' fp1 A1 cap1 y1 ∧ OwR 1 encI 24 2 w' fp9 fr7 A10 cap10 l7 ∧ (∀ x ∈ (fp9 ++ fr7), w0.heap.size ≤ x) ∧ Dj fp1 (fp9 ++ fr7) ∧ Chg [] w0 w' ∧ w0.heap.size ≤ w'.heap.size) ?_ ?_
     ·have hm := hs3
      refine cW_seq ?_
      obtain ⟨s6, hs4, hm⟩ := bindE hm
      refine cW_cut (fun a' w' => ∃ l8 : List (List Int), ∃ A11 : Option Addr, ∃ cap11 : Nat, ∃ fp10 : List Nat, ∃ fr8 : List Nat, l8 = s6 ∧ Fr 66 [(0, pt b0), (3, .slice A11 l8.length cap11), (4, .slice A1 y1.length cap1), (5, ii x1), (7, ii x3)] a' ∧ Sl 1 encI w' fp0_0 A0_0 l0_0 ∧ Sl 1 encI w' fp0_1 A0_1 l0_1 ∧ Cl w' b0 26 [.slice A0_0 l0_0.length cap0_0, .slice A0_1 l0_1.length cap0_1] ∧ Ow 1 encI 2 w' fp1 A1 cap1 y1 ∧ OwR 1 encI 24 2 w' fp10 fr8 A11 cap11 l8 ∧ (∀ x ∈ (fp10 ++ fr8), w0.heap.size ≤ x) ∧ Dj fp1 (fp10 ++ fr8) ∧ Chg [] w0 w' ∧ w0.heap.size ≤ w'.heap.size) ?_ ?_
      ·have hm := hs4
       refine sR <| wP 2 [(53, .bool (decide (x2 ≥ 0))), (52, ii x2)] <| wN <| cC (decide (x2 ≥ 0)) (fun hb6 => ?_) (fun hb6 => ?_)
       ·have hm := condT hb6 hm
        refine cW_region <| wP 3 [(56, ii x1), (55, .slice A1 y1.length cap1), (54, .slice A6 l4.length cap6)] ?_
        obtain ⟨x11, hx8, hm⟩ := bindE hm
        refine sI 57 A1 y1.length cap1 .i64 x1 sl24 ((F11.sl encI_ok).is hx8) <| sL 58 (elA A1 1 (x1) 0) (ii x11) vt2 (Sl.cell (F11.sl encI_ok) hx8 0 (by rfl)) <| wP 2 [(60, ii x3), (59, ii x2)] <| wS_bs (enc := encI) ([x11, x2, x3] : List Int) [ii x11, ii x2, ii x3] (d := 61) (t := 24) (T := 2) (n := 3) (ps := [(0, ii x11), (1, ii x2), (2, ii x3)]) (by kernel_rfl) el24 encI_ok (by rfl) (by omega) (by omega) (by kernel_rfl) (by rfl) ?_
        intro b4 w11 G10 F26 hc7
        have D11 : Dj fp1 [b4] := Dj.of F11.low (low1 G10)
        have D12 : Dj (fp5 ++ fr4) [b4] := Dj.of F12.low (low1 G10)
        replace F8 := F8.c hc7
        replace F9 := F9.c hc7
        replace F10 := F10.c hc7
        replace F11 := F11.c hc7
        replace F12 := F12.c hc7
        replace hB := hB.q hc7
        replace G10 := Nat.le_trans hZ G10
        replace G10 := low1 G10
        replace hZ := hc7.z hZ
        refine wS_row1 (k := 1) (enc := encI) (l := ([x11, x2, x3] : List Int)) (d := 62) (t := 28) (T := 24) (B := (some ⟨b4, 0, none⟩)) (c := 3) (by kernel_rfl) el28 F26 ?_
        intro b5 w12 G11 F27 hc8
        have D13 : Dj fp1 ([b5] ++ [b4]) := Dj.app (Dj.of F11.low (low1 G11)) D11
        have D14 : Dj (fp5 ++ fr4) ([b5] ++ [b4]) := Dj.app (Dj.of F12.low (low1 G11)) D12
        replace F8 := F8.c hc8
        replace F9 := F9.c hc8
        replace F10 := F10.c hc8
        replace F11 := F11.c hc8
        replace F12 := F12.c hc8
        replace F26 := F26.c hc8
        replace hB := hB.q hc8
        replace G11 := Nat.le_trans hZ G11
        replace G11 := lowApp (low1 G11) G10
        replace hZ := hc8.z hZ
        replace F26 := (F26.sl encI_ok)
        obtain ⟨_, hk2, hm⟩ := bindE hm
        replace hk2 := apE hk2
        refine wS_appendR (k := 1) (enc := encI) (ll := (l4 : List (List Int))) (ll2 := (([([x11, x2, x3] : List Int)] : List (List Int)) : List (List Int))) (d := 63) (t := 28) (T := 24) (A := A6) (A2 := (some ⟨b5, 0, none⟩)) (cap := cap6) (cap2 := 1) (by kernel_rfl) el28 F12 F27 (by rfl) D14 hk2 ?_
        intro w13 fp11 A12 cap12 F28 hc9 hp2
        have G12 := lowApp (low_ap (low_inl G4) hZ hp2) (lowApp (low_inr G4) (low_inr G11))
        have D15 : Dj fp1 (fp11 ++ (fr4 ++ [b4])) := Dj.app (Dj.ap (Dj.inl D3) F11.low hp2) (Dj.app (Dj.inr D3) (Dj.inr D13))
        replace F8 := F8.chg hc9 (Dj.inl (Dj.of L0_0 G4))
        replace F9 := F9.chg hc9 (Dj.inl (Dj.of L0_1 G4))
        replace F10 := F10.chg hc9 (dj1 (Dj.inl (Dj.of L0 G4)))
        replace F11 := F11.chg hc9 (Dj.inl D3)
        replace hB := hB.inS hc9 (memS_inl (inLow G4))
        replace hZ := hc9.z hZ
        refine wP 1 [(3, .slice A12 (l4 ++ (([([x11, x2, x3] : List Int)] : List (List Int)))).length cap12)] <| wE ?_
        obtain rfl := someE (x := (l4 ++ (([([x11, x2, x3] : List Int)] : List (List Int))))) hm
        exact eX_J (fun hst => ⟨l4 ++ (([([x11, x2, x3] : List Int)] : List (List Int))), A12, cap12, fp11, (fr4 ++ [b4]), rfl, fO hst, F8, F9, F10, F11, F28, G12, D15, hB, hZ⟩)
       have hm := condF hb6 hm
       refine cW_skip ?_
       obtain rfl := someE (x := l4) hm
       exact eX_J (fun hst => ⟨l4, A6, cap6, fp5, fr4, rfl, fO hst, F8, F9, F10, F11, F12, G4, D3, hB, hZ⟩)
      rintro a' w14 ⟨l8, A11, cap11, fp10, fr8, hJ, hF5, F29, F30, F31, F32, F33, G13, D16, hB, hZ⟩
      subst hJ
      refine gX hF5 <| eX_then <| cW_region <| wP 2 [(6, ii x3), (64, ii x3)] <| wE ?_
      obtain rfl := someE (x := ((l8, x3))) hm
      exact eX_J (fun hst => ⟨l8, A11, cap11, fp10, fr8, x3, rfl, fO hst, F29, F30, F31, F32, F33, G13, D16, hB, hZ⟩)
     rintro a' w15 ⟨l7, A10, cap10, fp9, fr7, x10, hJ, hF6, F34, F35, F36, F37, F38, G14, D17, hB, hZ⟩
     subst hJ
     refine gX hF6 <| eX_block <| eX_then <| cW_region <| wP 3 [(7, ii (wr (x3 + 1))), (25, ii (wr (x3 + 1))), (24, ii x3)] <| wE ?_
     obtain rfl := someE (x := (Ctl.next ((l7, x10, wr (x3 + 1))))) hm
     exact eX_next hx2 (fun hst => ⟨l7, A10, cap10, fp9, fr7, x10, wr (x3 + 1), rfl, fO hst, F34, F35, F36, F37, F38, G14, D17, hB, hZ⟩)
    have hm := condF hb2 hm
    refine cW_exit <| eX_then_exit ?_
    obtain rfl := someE (x := Ctl.out l4) hm
    refine eX_outX hx2 (fun hr3 => ?_)
    replace hr3 := hr3.symm
    subst hr3
    refine eX_block_hit ?_
    exact eX_J (fun hst => ⟨l4, A6, cap6, fp5, fr4, rfl, fO hst, F8, F9, F10, F11, F12, G4, D3, hB, hZ⟩)
   rintro a' w16 ⟨l3, A5, cap5, fp4, fr3, hJ, hF7, F39, F40, F41, F42, F43, G15, D18, hB, hZ⟩
   subst hJ
   refine gX hF7 <| eX_block <| eX_then <| cW_region <| wP 3 [(5, ii (wr (x1 + 1))), (16, ii (wr (x1 + 1))), (15, ii x1)] <| wE ?_
   obtain rfl := someE (x := (Ctl.next ((l3, wr (x1 + 1))))) hm
   exact eX_next hx1 (fun hst => ⟨l3, A5, cap5, fp4, fr3, wr (x1 + 1), rfl, fO hst, F39, F40, F41, F42, F43, G15, D18, hB, hZ⟩)
  have hm := condF hb1 hm
  refine cW_exit <| eX_then_exit ?_
  obtain rfl := someE (x := Ctl.out l2) hm
  refine eX_outX hx1 (fun hr4 => ?_)
  replace hr4 := hr4.symm
  subst hr4
  refine eX_block_hit ?_
  exact eX_J (fun hst => ⟨l2, A4, cap4, fp3, fr2, rfl, fO hst, F7, G3, hB, hZ⟩)
 rintro a' w17 ⟨l1, A3, cap3, fp2, fr1, hJ, hF8, F44, G16, hB, hZ⟩
 subst hJ
 refine gX hF8 <| eX_then <| sR <| wP 2 [(2, .slice A3 l1.length cap3), (65, .slice A3 l1.length cap3)] <| wN <| cW_ret ?_
 obtain rfl := someE (x := l1) hm
 refine rA (.slice A3 l1.length cap3) 2 ?_
 exact ⟨A3, cap3, fp2, fr1, rfl, F44, G16, hB⟩

set_option maxRecDepth 100000 in
/-- spec.l03OfPieces -/
theorem c_spec_l03OfPieces_bimplChannel {w0 : World} {l0_0 : List Int} {A0_0 : Option Addr} {cap0_0 : Nat} {fp0_0 : List Nat} {l0_1 : List Int} {A0_1 : Option Addr} {cap0_1 : Nat} {fp0_1 : List Nat} {b0 : Nat} {r : ((List Int) × (List (List Bool)) × (List (List Bool)))} (hm : m_spec_l03OfPieces_bimplChannel l0_0 l0_1 = some r) (F0_0 : Sl 1 encI w0 fp0_0 A0_0 l0_0) (F0_1 : Sl 1 encI w0 fp0_1 A0_1 l0_1) (F0 : Cl w0 b0 26 [.slice A0_0 l0_0.length cap0_0, .slice A0_1 l0_1.length cap0_1]) :
  Calls Tryd.prog 69 #[pt b0] w0 fun e w' => ∃ b100, ∃ A100_0 cap100_0 fp100_0, ∃ A100_1 cap100_1 fp100_1 fr100_1, ∃ A100_2 cap100_2 fp100_2 fr100_2, e = .returned (pt b100) ∧ Cl w' b100 94 [.slice A100_0 r.1.length cap100_0, .slice A100_1 r.2.1.length cap100_1, .slice A100_2 r.2.2.length cap100_2] ∧ w0.heap.size ≤ b100 ∧ Ow 1 encI 2 w' fp100_0 A100_0 cap100_0 r.1 ∧ (∀ x ∈ fp100_0, w0.heap.size ≤ x) ∧ OwR 1 encB 120 4 w' fp100_1 fr100_1 A100_1 cap100_1 r.2.1 ∧ (∀ x ∈ fp100_1 ++ fr100_1, w0.heap.size ≤ x) ∧ OwR 1 encB 120 4 w' fp100_2 fr100_2 A100_2 cap100_2 r.2.2 ∧ (∀ x ∈ fp100_2 ++ fr100_2, w0.heap.size ≤ x) ∧ Dj [b100] fp100_0 ∧ Dj [b100] (fp100_1 ++ fr100_1) ∧ Dj [b100] (fp100_2 ++ fr100_2) ∧ Dj fp100_0 (fp100_1 ++ fr100_1) ∧ Dj fp100_0 (fp100_2 ++ fr100_2) ∧ Dj (fp100_1 ++ fr100_1) (fp100_2 ++ fr100_2) ∧ Chg [] w0 w' := by
 have L0_0 := F0_0.low
 have L0_1 := F0_1.low
 have L0 := lt1 F0.lt
 have hB : Chg [] w0 w0 := Chg.refl _ _
 have hZ := Nat.le_refl w0.heap.size
 unfold m_spec_l03OfPieces_bimplChannel at hm
 refine enterE (N := 162) Tryd.func69 (by rfl) Tryd.ntmps69 (by simp) [(0, pt b0)] (by rfl) (by kernel_rfl) (fun a => ?_)
 refine sR <| wP 1 [(2, .pointer none)] <| wN <| sR <| wP 1 [(12, pt b0)] ?_
 obtain ⟨y1, hy1, hm⟩ := bindE hm
 refine sC 13 [pt b0] ent98 (c_spec_l03Pieces_bimplChannel hy1 F0_0 F0_1 F0) ?_
 rintro _ w1 ⟨A1, cap1, fp1, fr1, rfl, F1, G1, hc1⟩
 replace F0_0 := F0_0.c hc1
 replace F0_1 := F0_1.c hc1
 replace F0 := F0.c hc1
 replace hB := hB.q hc1
 replace G1 := low_le hZ G1
 replace hZ := hc1.z hZ
 refine ⟨.slice A1 y1.length cap1, rfl, ?_⟩
 refine wP 1 [(3, .slice A1 y1.length cap1)] <| wN <| sR <| wS_bs0 (α := Int) (enc := encI) (d := 14) (t := 24) (T := 2) (by kernel_rfl) el24 ?_
 intro b1 w2 G2 F2 hc2
 have D1 : Dj (fp1 ++ fr1) [b1] := Dj.of F1.low (low1 G2)
 replace F0_0 := F0_0.c hc2
 replace F0_1 := F0_1.c hc2
 replace F0 := F0.c hc2
 replace F1 := F1.c hc2
 replace hB := hB.q hc2
 replace G2 := Nat.le_trans hZ G2
 replace G2 := low1 G2
 replace hZ := hc2.z hZ
 refine wP 1 [(15, .agg #[.slice (some ⟨b1, 0, none⟩) (([] : List Int)).length 0, .slice none 0 0, .slice none 0 0])] <| wS_box (d := 16) (T := 94) (x := .agg #[.slice (some ⟨b1, 0, none⟩) (([] : List Int)).length 0, .slice none 0 0, .slice none 0 0]) (by kernel_rfl) ?_
 intro b2 w3 G3 F3 hc3
 replace F3 : Cl w3 b2 94 [.slice (some ⟨b1, 0, none⟩) (([] : List Int)).length 0, .slice none 0 0, .slice none 0 0] := F3
 have D2 : Dj (fp1 ++ fr1) [b2] := Dj.of F1.low (low1 G3)
 have D3 : Dj [b1] [b2] := Dj.of F2.low (low1 G3)
 replace F0_0 := F0_0.c hc3
 replace F0_1 := F0_1.c hc3
 replace F0 := F0.c hc3
 replace F1 := F1.c hc3
 replace F2 := F2.c hc3
 replace hB := hB.q hc3
 replace G3 := Nat.le_trans hZ G3
 replace hZ := hc3.z hZ
 refine wP 1 [(4, pt b2)] <| wN <| cW_seq <| sR <| wP 1 [(5, ii 0)] <| wN ?_
 obtain ⟨r1, hr1, hm⟩ := bindE hm
 have hm1 := hm
 refine cW_cut (fun a' w' => ∃ l1 : List Int, ∃ A3 : Option Addr, ∃ cap3 : Nat, ∃ fp2 : List Nat, ∃ l3 : List (List Bool), ∃ A4 : Option Addr, ∃ cap4 : Nat, ∃ fp3 : List Nat, ∃ fr2 : List Nat, ∃ l4 : List (List Bool), ∃ A5 : Option Addr, ∃ cap5 : Nat, ∃ fp4 : List Nat, ∃ fr3 : List Nat, (l1, l3, l4) = r1 ∧ Fr 162 [(4, pt b2)] a' ∧ Cl w' b2 94 [.slice A3 l1.length cap3, .slice A4 l3.length cap4, .slice A5 l4.length cap5] ∧ Ow 1 encI 2 w' fp2 A3 cap3 l1 ∧ OwR 1 encB 120 4 w' fp3 fr2 A4 cap4 l3 ∧ OwR 1 encB 120 4 w' fp4 fr3 A5 cap5 l4 ∧ (∀ x ∈ fp2, w0.heap.size ≤ x) ∧ (∀ x ∈ (fp3 ++ fr2), w0.heap.size ≤ x) ∧ (∀ x ∈ (fp4 ++ fr3), w0.heap.size ≤ x) ∧ Dj [b2] fp2 ∧ Dj (fp3 ++ fr2) fp2 ∧ Dj (fp4 ++ fr3) fp2 ∧ Dj [b2] (fp3 ++ fr2) ∧ Dj (fp4 ++ fr3) (fp3 ++ fr2) ∧ Dj [b2] (fp4 ++ fr3) ∧ Chg [] w0 w' ∧ w0.heap.size ≤ w'.heap.size) ?_ ?_
 ·refine cW_block ?_
  refine cW_loop _ (fun (s1 : Int × (List Int) × (List (List Bool)) × (List (List Bool))) a' w' => ∃ x1 : Int, ∃ l5 : List Int, ∃ A6 : Option Addr, ∃ cap6 : Nat, ∃ fp5 : List Nat, ∃ l6 : List (List Bool), ∃ A7 : Option Addr, ∃ cap7 : Nat, ∃ fp6 : List Nat, ∃ fr4 : List Nat, ∃ l7 : List (List Bool), ∃ A8 : Option Addr, ∃ cap8 : Nat, ∃ fp7 : List Nat, ∃ fr5 : List Nat, (x1, l5, l6, l7) = s1 ∧ Fr 162 [(0, pt b0), (3, .slice A1 y1.length cap1), (4, pt b2), (5, ii x1)] a' ∧ Sl 1 encI w' fp0_0 A0_0 l0_0 ∧ Sl 1 encI w' fp0_1 A0_1 l0_1 ∧ Cl w' b0 26 [.slice A0_0 l0_0.length cap0_0, .slice A0_1 l0_1.length cap0_1] ∧ OwR 1 encI 24 2 w' fp1 fr1 A1 cap1 y1 ∧ Cl w' b2 94 [.slice A6 l5.length cap6, .slice A7 l6.length cap7, .slice A8 l7.length cap8] ∧ Ow 1 encI 2 w' fp5 A6 cap6 l5 ∧ OwR 1 encB 120 4 w' fp6 fr4 A7 cap7 l6 ∧ OwR 1 encB 120 4 w' fp7 fr5 A8 cap8 l7 ∧ (∀ x ∈ fp5, w0.heap.size ≤ x) ∧ (∀ x ∈ (fp6 ++ fr4), w0.heap.size ≤ x) ∧ (∀ x ∈ (fp7 ++ fr5), w0.heap.size ≤ x) ∧ Dj (fp1 ++ fr1) fp5 ∧ Dj [b2] fp5 ∧ Dj (fp6 ++ fr4) fp5 ∧ Dj (fp7 ++ fr5) fp5 ∧ Dj (fp1 ++ fr1) (fp6 ++ fr4) ∧ Dj [b2] (fp6 ++ fr4) ∧ Dj (fp7 ++ fr5) (fp6 ++ fr4) ∧ Dj (fp1 ++ fr1) (fp7 ++ fr5) ∧ Dj [b2] (fp7 ++ fr5) ∧ Chg [] w0 w' ∧ w0.heap.size ≤ w'.heap.size) hr1 (fun hst => ⟨0, ([] : List Int), (some ⟨b1, 0, none⟩), 0, [b1], [], none, 0, [], [], [], none, 0, [], [], rfl, fO hst, F0_0, F0_1, F0, F1, F3, F2, OwR.nil _, OwR.nil _, G2, (lowApp lowNil lowNil), (lowApp lowNil lowNil), D1, (D3).symm, (Dj.app Dj.nil Dj.nil).symm, (Dj.app Dj.nil Dj.nil).symm, (Dj.app Dj.nil Dj.nil), (Dj.app Dj.nil Dj.nil), (Dj.app Dj.nil Dj.nil), (Dj.app Dj.nil Dj.nil), (Dj.app Dj.nil Dj.nil), hB, hZ⟩) ?_
  rintro _ c1 a' w4 ⟨x1, l5, A6, cap6, fp5, l6, A7, cap7, fp6, fr4, l7, A8, cap8, fp7, fr5, rfl, hF1, F4, F5, F6, F7, F8, F9, F10, F11, G4, G5, G6, D4, D5, D6, D7, D8, D9, D10, D11, D12, hB, hZ⟩ hx1
  refine gO hF1 ?_
  have hm := hx1
  unfold m_spec_l03OfPieces_bimplChannel_s9 at hm
  refine cW_seq <| sR <| wP 4 [(20, .bool (decide (x1 < ((y1.length : Int))))), (19, ii (y1.length : Int)), (18, .slice A1 y1.length cap1), (17, ii x1)] <| wN <| cC (decide (x1 < ((y1.length : Int)))) (fun hb1 => ?_) (fun hb1 => ?_)
  ·have hm := condT hb1 hm
   refine cW_skip <| eX_then <| cW_seq <| cW_block <| sR <| wP 2 [(24, ii x1), (23, .slice A1 y1.length cap1)] ?_
   obtain ⟨x2, hx2, hm⟩ := bindE hm
   refine sI 25 A1 y1.length cap1 .i64 x1 sl28 ((F7.slr encI_ok).is hx2) ?_
   obtain ⟨A9, cap9, hc4, F12, K1⟩ := OwR.row F7 encI_ok hx2
   have G7 := low_inr G1
   have Dm1 := (F7.dj).symm
   refine sL 26 (elA A1 1 (x1) 0) (.slice A9 x2.length cap9) vt24 hc4 <| wP 1 [(6, .slice A9 x2.length cap9)] <| wN <| sR <| wP 2 [(28, ii (y1.length : Int)), (27, .slice A1 y1.length cap1)] ?_
   obtain ⟨_, hk1, hm⟩ := bindE hm
   replace hk1 := mkE hk1
   refine wS_make (enc := encB) (x0 := (false : Bool)) (d := 29) (t := 120) (T := 4) (k1 := .i64) (k2 := .i64) (m := (y1.length : Int)) (by kernel_rfl) el120 encB_ok (by rfl) hk1.1 hk1.2 ?_
   intro b3 w5 G8 F13 hc5
   have D13 : Dj (fp1 ++ fr1) [b3] := Dj.of F7.low (low1 G8)
   have D14 : Dj [b2] [b3] := Dj.of (lt1 F8.lt) (low1 G8)
   have D15 : Dj fp5 [b3] := Dj.of F9.low (low1 G8)
   have D16 : Dj (fp6 ++ fr4) [b3] := Dj.of F10.low (low1 G8)
   have D17 : Dj (fp7 ++ fr5) [b3] := Dj.of F11.low (low1 G8)
   have D18 : Dj fr1 [b3] := Dj.of F12.low (low1 G8)
   replace F4 := F4.c hc5
   replace F5 := F5.c hc5
   replace F6 := F6.c hc5
   replace F7 := F7.c hc5
   replace F8 := F8.c hc5
   replace F9 := F9.c hc5
   replace F10 := F10.c hc5
   replace F11 := F11.c hc5
   replace F12 := F12.c hc5
   replace hB := hB.q hc5
   replace G8 := Nat.le_trans hZ G8
   replace G8 := low1 G8
   replace hZ := hc5.z hZ
   refine wP 1 [(7, .slice (some ⟨b3, 0, none⟩) (List.replicate (Int.toNat ((y1.length : Int))) ((false : Bool))).length (Int.toNat ((y1.length : Int))))] <| wN <| sR <| wP 2 [(31, ii (y1.length : Int)), (30, .slice A1 y1.length cap1)] ?_
   obtain ⟨_, hk2, hm⟩ := bindE hm
   replace hk2 := mkE hk2
   refine wS_make (enc := encB) (x0 := (false : Bool)) (d := 32) (t := 120) (T := 4) (k1 := .i64) (k2 := .i64) (m := (y1.length : Int)) (by kernel_rfl) el120 encB_ok (by rfl) hk2.1 hk2.2 ?_
   intro b4 w6 G9 F14 hc6
   have D19 : Dj (fp1 ++ fr1) [b4] := Dj.of F7.low (low1 G9)
   have D20 : Dj [b2] [b4] := Dj.of (lt1 F8.lt) (low1 G9)
   have D21 : Dj fp5 [b4] := Dj.of F9.low (low1 G9)
   have D22 : Dj (fp6 ++ fr4) [b4] := Dj.of F10.low (low1 G9)
   have D23 : Dj (fp7 ++ fr5) [b4] := Dj.of F11.low (low1 G9)
   have D24 : Dj fr1 [b4] := Dj.of F12.low (low1 G9)
   have D25 : Dj [b3] [b4] := Dj.of F13.low (low1 G9)
   replace F4 := F4.c hc6
   replace F5 := F5.c hc6
   replace F6 := F6.c hc6
   replace F7 := F7.c hc6
   replace F8 := F8.c hc6
   replace F9 := F9.c hc6
   replace F10 := F10.c hc6
   replace F11 := F11.c hc6
   replace F12 := F12.c hc6
   replace F13 := F13.c hc6
   replace hB := hB.q hc6
   replace G9 := Nat.le_trans hZ G9
   replace G9 := low1 G9
   replace hZ := hc6.z hZ
   refine wP 1 [(8, .slice (some ⟨b4, 0, none⟩) (List.replicate (Int.toNat ((y1.length : Int))) ((false : Bool))).length (Int.toNat ((y1.length : Int))))] <| wN <| cW_seq <| sR <| wP 1 [(9, ii 0)] <| wN ?_
   obtain ⟨r2, hr2, hm⟩ := bindE hm
   have hm2 := hm
   refine cW_cut (fun a' w' => ∃ l8 : List Bool, ∃ l9 : List Bool, (l8, l9) = r2 ∧ Fr 162 [(0, pt b0), (3, .slice A1 y1.length cap1), (4, pt b2), (5, ii x1), (7, .slice (some ⟨b3, 0, none⟩) l8.length (Int.toNat ((y1.length : Int)))), (8, .slice (some ⟨b4, 0, none⟩) l9.length (Int.toNat ((y1.length : Int))))] a' ∧ Sl 1 encI w' fp0_0 A0_0 l0_0 ∧ Sl 1 encI w' fp0_1 A0_1 l0_1 ∧ Cl w' b0 26 [.slice A0_0 l0_0.length cap0_0, .slice A0_1 l0_1.length cap0_1] ∧ OwR 1 encI 24 2 w' fp1 fr1 A1 cap1 y1 ∧ Cl w' b2 94 [.slice A6 l5.length cap6, .slice A7 l6.length cap7, .slice A8 l7.length cap8] ∧ Ow 1 encI 2 w' fp5 A6 cap6 l5 ∧ OwR 1 encB 120 4 w' fp6 fr4 A7 cap7 l6 ∧ OwR 1 encB 120 4 w' fp7 fr5 A8 cap8 l7 ∧ Ow 1 encB 4 w' [b3] (some ⟨b3, 0, none⟩) (Int.toNat ((y1.length : Int))) l8 ∧ Ow 1 encB 4 w' [b4] (some ⟨b4, 0, none⟩) (Int.toNat ((y1.length : Int))) l9 ∧ Chg [] w0 w' ∧ w0.heap.size ≤ w'.heap.size) ?_ ?_
   ·refine cW_block ?_
    refine cW_loop _ (fun (s2 : Int × (List Bool) × (List Bool)) a' w' => ∃ x3 : Int, ∃ l10 : List Bool, ∃ l11 : List Bool, (x3, l10, l11) = s2 ∧ Fr 162 [(0, pt b0), (3, .slice A1 y1.length cap1), (4, pt b2), (5, ii x1), (6, .slice A9 x2.length cap9), (7, .slice (some ⟨b3, 0, none⟩) l10.length (Int.toNat ((y1.length : Int)))), (8, .slice (some ⟨b4, 0, none⟩) l11.length (Int.toNat ((y1.length : Int)))), (9, ii x3)] a' ∧ Sl 1 encI w' fp0_0 A0_0 l0_0 ∧ Sl 1 encI w' fp0_1 A0_1 l0_1 ∧ Cl w' b0 26 [.slice A0_0 l0_0.length cap0_0, .slice A0_1 l0_1.length cap0_1] ∧ OwR 1 encI 24 2 w' fp1 fr1 A1 cap1 y1 ∧ Cl w' b2 94 [.slice A6 l5.length cap6, .slice A7 l6.length cap7, .slice A8 l7.length cap8] ∧ Ow 1 encI 2 w' fp5 A6 cap6 l5 ∧ OwR 1 encB 120 4 w' fp6 fr4 A7 cap7 l6 ∧ OwR 1 encB 120 4 w' fp7 fr5 A8 cap8 l7 ∧ Sl 1 encI w' fr1 A9 x2 ∧ Ow 1 encB 4 w' [b3] (some ⟨b3, 0, none⟩) (Int.toNat ((y1.length : Int))) l10 ∧ Ow 1 encB 4 w' [b4] (some ⟨b4, 0, none⟩) (Int.toNat ((y1.length : Int))) l11 ∧ Chg [] w0 w' ∧ w0.heap.size ≤ w'.heap.size) hr2 (fun hst => ⟨0, List.replicate (Int.toNat ((y1.length : Int))) ((false : Bool)), List.replicate (Int.toNat ((y1.length : Int))) ((false : Bool)), rfl, fO hst, F4, F5, F6, F7, F8, F9, F10, F11, F12, F13, F14, hB, hZ⟩) ?_
    rintro _ c2 a' w7 ⟨x3, l10, l11, rfl, hF2, F15, F16, F17, F18, F19, F20, F21, F22, F23, F24, F25, hB, hZ⟩ hx3
    refine gO hF2 ?_
    have hm := hx3
    unfold m_spec_l03OfPieces_bimplChannel_s12 at hm
    refine cW_seq <| sR <| wP 4 [(36, .bool (decide (x3 < ((y1.length : Int))))), (35, ii (y1.length : Int)), (34, .slice A1 y1.length cap1), (33, ii x3)] <| wN <| cC (decide (x3 < ((y1.length : Int)))) (fun hb2 => ?_) (fun hb2 => ?_)
    ·have hm := condT hb2 hm
     refine cW_skip <| eX_then <| cW_seq <| cW_block <| sR <| wP 2 [(40, ii x3), (39, .slice A1 y1.length cap1)] ?_
     obtain ⟨x4, hx4, hm⟩ := bindE hm
     refine sI 41 A1 y1.length cap1 .i64 x3 sl28 ((F18.slr encI_ok).is hx4) ?_
     obtain ⟨A10, cap10, hc7, F26, K2⟩ := OwR.row F18 encI_ok hx4
     have G10 := low_inr G1
     have Dm2 := (F18.dj).symm
     refine sL 42 (elA A1 1 (x3) 0) (.slice A10 x4.length cap10) vt24 hc7 <| wP 1 [(10, .slice A10 x4.length cap10)] <| wN <| cW_seq ?_
     obtain ⟨s3, hs1, hm⟩ := bindE hm
     refine cW_cut (fun a' w' => ∃ l12 : List Bool, l12 = s3 ∧ Fr 162 [(0, pt b0), (3, .slice A1 y1.length cap1), (4, pt b2), (5, ii x1), (6, .slice A9 x2.length cap9), (7, .slice (some ⟨b3, 0, none⟩) l12.length (Int.toNat ((y1.length : Int)))), (8, .slice (some ⟨b4, 0, none⟩) l11.length (Int.toNat ((y1.length : Int)))), (9, ii x3), (10, .slice A10 x4.length cap10)] a' ∧ Sl 1 encI w' fp0_0 A0_0 l0_0 ∧ Sl 1 encI w' fp0_1 A0_1 l0_1 ∧ Cl w' b0 26 [.slice A0_0 l0_0.length cap0_0, .slice A0_1 l0_1.length cap0_1] ∧ OwR 1 encI 24 2 w' fp1 fr1 A1 cap1 y1 ∧ Cl w' b2 94 [.slice A6 l5.length cap6, .slice A7 l6.length cap7, .slice A8 l7.length cap8] ∧ Ow 1 encI 2 w' fp5 A6 cap6 l5 ∧ OwR 1 encB 120 4 w' fp6 fr4 A7 cap7 l6 ∧ OwR 1 encB 120 4 w' fp7 fr5 A8 cap8 l7 ∧ Sl 1 encI w' fr1 A9 x2 ∧ Ow 1 encB 4 w' [b3] (some ⟨b3, 0, none⟩) (Int.toNat ((y1.length : Int))) l12 ∧ Ow 1 encB 4 w' [b4] (some ⟨b4, 0, none⟩) (Int.toNat ((y1.length : Int))) l11 ∧ Sl 1 encI w' fr1 A10 x4 ∧ Chg [] w0 w' ∧ w0.heap.size ≤ w'.heap.size) ?_ ?_
     ·have hm := hs1
      refine cW_drawnTail [] 27 (by kernel_rfl) (by kernel_rfl) (fun w8 hc8 => ?_)
      replace F15 := F15.c hc8
      replace F16 := F16.c hc8
      replace F17 := F17.c hc8
      replace F18 := F18.c hc8
      replace F19 := F19.c hc8
      replace F20 := F20.c hc8
      replace F21 := F21.c hc8
      replace F22 := F22.c hc8
      replace F23 := F23.c hc8
      replace F24 := F24.c hc8
      replace F25 := F25.c hc8
      replace F26 := F26.c hc8
      replace hB := hB.q hc8
      replace hZ := hc8.z hZ
      have hS := Chg.refl [] w8
      have Z1 := F15
      have Z2 := F16
      have Z3 := F17
      have Z4 := F18
      have Z5 := F19
      have Z6 := F20
      have Z7 := F21
      have Z8 := F22
      have Z9 := F23
      have Z10 := F24
      have Z11 := F25
      have Z12 := F26
      refine hT [0, 1, 2] [(45, .slice A9 x2.length cap9), (44, ii x3), (43, .slice (some ⟨b3, 0, none⟩) l10.length (Int.toNat ((y1.length : Int))))] ?_
      obtain ⟨x5, hx5, hm⟩ := bindE hm
      refine hI 3 46 A9 x2.length cap9 .i64 0 sl24 (F23.is hx5) <| hL 4 47 (elA A9 1 (0) 0) (ii x5) vt2 (fun W hW => Sl.cell (Z9.c hW) hx5 0 (by rfl)) ?_
      refine hT [5] [(48, .slice A10 x4.length cap10)] ?_
      obtain ⟨x6, hx6, hm⟩ := bindE hm
      refine hI 6 49 A10 x4.length cap10 .i64 0 sl24 (F26.is hx6) <| hL 7 50 (elA A10 1 (0) 0) (ii x6) vt2 (fun W hW => Sl.cell (Z12.c hW) hx6 0 (by rfl)) ?_
      refine hT [8, 9] [(52, .bool (x5 != x6)), (51, .bool (x5 != x6))] <| wH_bool (x5 != x6) (fun hb3 => ?_) (fun hb3 => ?_)
      ·have hm := condT hb3 hm
       rewrite [hb3]
       refine hT [10] [(53, .slice A9 x2.length cap9)] ?_
       obtain ⟨x7, hx7, hm⟩ := bindE hm
       refine hI 11 54 A9 x2.length cap9 .i64 1 sl24 (F23.is hx7) <| hL 12 55 (elA A9 1 (1) 0) (ii x7) vt2 (fun W hW => Sl.cell (Z9.c hW) hx7 0 (by rfl)) ?_
       refine hT [13] [(56, .slice A10 x4.length cap10)] ?_
       obtain ⟨x8, hx8, hm⟩ := bindE hm
       refine hI 14 57 A10 x4.length cap10 .i64 2 sl24 (F26.is hx8) <| hL 15 58 (elA A10 1 (2) 0) (ii x8) vt2 (fun W hW => Sl.cell (Z12.c hW) hx8 0 (by rfl)) ?_
       refine hT [16, 17, 18] [(61, .bool (decide (x7 ≤ x8))), (60, .bool (decide (x7 ≤ x8))), (59, .bool (decide (x7 ≤ x8)))] <| wH_bool (decide (x7 ≤ x8)) (fun hb4 => ?_) (fun hb4 => ?_)
       ·have hm := condT hb4 hm
        rewrite [hb4]
        refine hT [19] [(62, .slice A10 x4.length cap10)] ?_
        obtain ⟨x9, hx9, hm⟩ := bindE hm
        refine hI 20 63 A10 x4.length cap10 .i64 1 sl24 (F26.is hx9) <| hL 21 64 (elA A10 1 (1) 0) (ii x9) vt2 (fun W hW => Sl.cell (Z12.c hW) hx9 0 (by rfl)) ?_
        refine hT [22] [(65, .slice A9 x2.length cap9)] ?_
        obtain ⟨x10, hx10, hm⟩ := bindE hm
        refine hI 23 66 A9 x2.length cap9 .i64 2 sl24 (F23.is hx10) <| hL 24 67 (elA A9 1 (2) 0) (ii x10) vt2 (fun W hW => Sl.cell (Z9.c hW) hx10 0 (by rfl)) ?_
        refine hT [25, 26] [(69, .bool (decide (x9 ≤ x10))), (68, .bool (decide (x9 ≤ x10)))] <| wD <| eX_tail ?_
        obtain ⟨x11, hx11, hm⟩ := bindE hm
        refine sI 70 (some ⟨b3, 0, none⟩) l10.length (Int.toNat ((y1.length : Int))) .i64 x3 sl120 ((F24.sl encB_ok).is hx11) ?_
        refine wS_storeEl (x := x11) (decide (x9 ≤ x10)) (T := 4) (U := 4) (cap := (Int.toNat ((y1.length : Int)))) (j := 0) (A := (some ⟨b3, 0, none⟩)) (v := .bool (decide (x9 ≤ x10))) (vs := [.bool (decide (x9 ≤ x10))]) (m := x3) (by kernel_rfl) (by rfl) sz4 (by rfl) encB_ok F24 hx11 (by simp only [List.length_cons, List.length_nil]; omega) (by rfl) ?_
        intro w9 F27 hc9
        replace F15 := F15.chg hc9 (Dj.of L0_0 G8)
        replace F16 := F16.chg hc9 (Dj.of L0_1 G8)
        replace F17 := F17.chg hc9 (dj1 (Dj.of L0 G8))
        replace F18 := F18.chg hc9 D13
        replace F19 := F19.chg hc9 (dj1 D14)
        replace F20 := F20.chg hc9 D15
        replace F21 := F21.chg hc9 D16
        replace F22 := F22.chg hc9 D17
        replace F23 := F23.chg hc9 D18
        replace F25 := F25.chg hc9 (D25).symm
        replace F26 := F26.chg hc9 ((Dj.inr (D13).symm)).symm
        replace hB := hB.inS hc9 (inLow G8)
        replace hZ := hc9.z hZ
        clear F24
        rewrite [show l10.length = (l10.set (Int.toNat x3) (decide (x9 ≤ x10))).length from (List.length_set ..).symm]
        refine wE ?_
        obtain rfl := someE (x := l10.set (Int.toNat x3) (decide (x9 ≤ x10))) hm
        exact eX_J (fun hst => ⟨l10.set (Int.toNat x3) (decide (x9 ≤ x10)), rfl, fO hst, F15, F16, F17, F18, F19, F20, F21, F22, F23, F27, F25, F26, hB, hZ⟩)
       have hm := condF hb4 hm
       rewrite [hb4]
       refine hT [19, 20, 21, 22, 23, 24, 25, 26] [(69, .bool (false)), (68, undef), (67, undef), (66, undef), (65, undef), (64, undef), (63, undef), (62, undef)] <| wD <| eX_tail ?_
       obtain ⟨x12, hx12, hm⟩ := bindE hm
       refine sI 70 (some ⟨b3, 0, none⟩) l10.length (Int.toNat ((y1.length : Int))) .i64 x3 sl120 ((F24.sl encB_ok).is hx12) ?_
       refine wS_storeEl (x := x12) false (T := 4) (U := 4) (cap := (Int.toNat ((y1.length : Int)))) (j := 0) (A := (some ⟨b3, 0, none⟩)) (v := .bool (false)) (vs := [.bool (false)]) (m := x3) (by kernel_rfl) (by rfl) sz4 (by rfl) encB_ok F24 hx12 (by simp only [List.length_cons, List.length_nil]; omega) (by rfl) ?_
       intro w10 F28 hc10
       replace F15 := F15.chg hc10 (Dj.of L0_0 G8)
       replace F16 := F16.chg hc10 (Dj.of L0_1 G8)
       replace F17 := F17.chg hc10 (dj1 (Dj.of L0 G8))
       replace F18 := F18.chg hc10 D13
       replace F19 := F19.chg hc10 (dj1 D14)
       replace F20 := F20.chg hc10 D15
       replace F21 := F21.chg hc10 D16
       replace F22 := F22.chg hc10 D17
       replace F23 := F23.chg hc10 D18
       replace F25 := F25.chg hc10 (D25).symm
       replace F26 := F26.chg hc10 ((Dj.inr (D13).symm)).symm
       replace hB := hB.inS hc10 (inLow G8)
       replace hZ := hc10.z hZ
       clear F24
       rewrite [show l10.length = (l10.set (Int.toNat x3) false).length from (List.length_set ..).symm]
       refine wE ?_
       obtain rfl := someE (x := l10.set (Int.toNat x3) false) hm
       exact eX_J (fun hst => ⟨l10.set (Int.toNat x3) false, rfl, fO hst, F15, F16, F17, F18, F19, F20, F21, F22, F23, F28, F25, F26, hB, hZ⟩)
      have hm := condF hb3 hm
      rewrite [hb3]
      refine hT [10, 11, 12, 13, 14, 15, 16, 17, 18, 19, 20, 21, 22, 23, 24, 25, 26] [(69, .bool (false)), (68, undef), (67, undef), (66, undef), (65, undef), (64, undef), (63, undef), (62, undef), (61, .bool (false)), (60, .bool (false)), (59, undef), (58, undef), (57, undef), (56, undef), (55, undef), (54, undef), (53, undef)] <| wD <| eX_tail ?_
      obtain ⟨x13, hx13, hm⟩ := bindE hm
      refine sI 70 (some ⟨b3, 0, none⟩) l10.length (Int.toNat ((y1.length : Int))) .i64 x3 sl120 ((F24.sl encB_ok).is hx13) ?_
      refine wS_storeEl (x := x13) false (T := 4) (U := 4) (cap := (Int.toNat ((y1.length : Int)))) (j := 0) (A := (some ⟨b3, 0, none⟩)) (v := .bool (false)) (vs := [.bool (false)]) (m := x3) (by kernel_rfl) (by rfl) sz4 (by rfl) encB_ok F24 hx13 (by simp only [List.length_cons, List.length_nil]; omega) (by rfl) ?_
      intro w11 F29 hc11
      replace F15 := F15.chg hc11 (Dj.of L0_0 G8)
      replace F16 := F16.chg hc11 (Dj.of L0_1 G8)
      replace F17 := F17.chg hc11 (dj1 (Dj.of L0 G8))
      replace F18 := F18.chg hc11 D13
      replace F19 := F19.chg hc11 (dj1 D14)
      replace F20 := F20.chg hc11 D15
      replace F21 := F21.chg hc11 D16
      replace F22 := F22.chg hc11 D17
      replace F23 := F23.chg hc11 D18
      replace F25 := F25.chg hc11 (D25).symm
      replace F26 := F26.chg hc11 ((Dj.inr (D13).symm)).symm
      replace hB := hB.inS hc11 (inLow G8)
      replace hZ := hc11.z hZ
      clear F24
      rewrite [show l10.length = (l10.set (Int.toNat x3) false).length from (List.length_set ..).symm]
      refine wE ?_
      obtain rfl := someE (x := l10.set (Int.toNat x3) false) hm
      exact eX_J (fun hst => ⟨l10.set (Int.toNat x3) false, rfl, fO hst, F15, F16, F17, F18, F19, F20, F21, F22, F23, F29, F25, F26, hB, hZ⟩)
     rintro a' w12 ⟨l12, hJ, hF3, F30, F31, F32, F33, F34, F35, F36, F37, F38, F39, F40, F41, hB, hZ⟩
     subst hJ
     refine gX hF3 <| eX_then <| cW_seq <| cW_drawnTail [] 6 (by kernel_rfl) (by kernel_rfl) (fun w13 hc12 => ?_)
     replace F30 := F30.c hc12
     replace F31 := F31.c hc12
     replace F32 := F32.c hc12
     replace F33 := F33.c hc12
     replace F34 := F34.c hc12
     replace F35 := F35.c hc12
     replace F36 := F36.c hc12
     replace F37 := F37.c hc12
     replace F38 := F38.c hc12
     replace F39 := F39.c hc12
     replace F40 := F40.c hc12
     replace F41 := F41.c hc12
     replace hB := hB.q hc12
     replace hZ := hc12.z hZ
     have hS := Chg.refl [] w13
     have Z13 := F30
     have Z14 := F31
     have Z15 := F32
     have Z16 := F33
     have Z17 := F34
     have Z18 := F35
     have Z19 := F36
     have Z20 := F37
     have Z21 := F38
     have Z22 := F39
     have Z23 := F40
     have Z24 := F41
     refine hT [0] [(71, .slice A9 x2.length cap9)] ?_
     obtain ⟨x14, hx14, hm⟩ := bindE hm
     refine hI 1 72 A9 x2.length cap9 .i64 1 sl24 (F38.is hx14) <| hL 2 73 (elA A9 1 (1) 0) (ii x14) vt2 (fun W hW => Sl.cell (Z21.c hW) hx14 0 (by rfl)) ?_
     refine hT [3] [(74, .slice A10 x4.length cap10)] ?_
     obtain ⟨x15, hx15, hm⟩ := bindE hm
     refine hI 4 75 A10 x4.length cap10 .i64 1 sl24 (F41.is hx15) <| hL 5 76 (elA A10 1 (1) 0) (ii x15) vt2 (fun W hW => Sl.cell (Z24.c hW) hx15 0 (by rfl)) ?_
     refine wD <| eX_tail ?_
     obtain ⟨y2, hy2, hm⟩ := bindE hm
     refine sC 77 [ii x14, ii x15] ent99 (c_spec_l00Max hy2) ?_
     rintro _ w14 ⟨rfl, hc13⟩
     replace F30 := F30.c hc13
     replace F31 := F31.c hc13
     replace F32 := F32.c hc13
     replace F33 := F33.c hc13
     replace F34 := F34.c hc13
     replace F35 := F35.c hc13
     replace F36 := F36.c hc13
     replace F37 := F37.c hc13
     replace F38 := F38.c hc13
     replace F39 := F39.c hc13
     replace F40 := F40.c hc13
     replace F41 := F41.c hc13
     replace hB := hB.q hc13
     replace hZ := hc13.z hZ
     refine ⟨ii y2, rfl, ?_⟩
     refine wP 1 [(11, ii y2)] <| wN ?_
     obtain ⟨r3, hr3, hm⟩ := bindE hm
     have hm3 := hm
     refine cW_cut (fun a' w' => ∃ l13 : List Bool, l13 = r3 ∧ Fr 162 [(0, pt b0), (3, .slice A1 y1.length cap1), (4, pt b2), (5, ii x1), (6, .slice A9 x2.length cap9), (7, .slice (some ⟨b3, 0, none⟩) l12.length (Int.toNat ((y1.length : Int)))), (8, .slice (some ⟨b4, 0, none⟩) l13.length (Int.toNat ((y1.length : Int)))), (9, ii x3)] a' ∧ Sl 1 encI w' fp0_0 A0_0 l0_0 ∧ Sl 1 encI w' fp0_1 A0_1 l0_1 ∧ Cl w' b0 26 [.slice A0_0 l0_0.length cap0_0, .slice A0_1 l0_1.length cap0_1] ∧ OwR 1 encI 24 2 w' fp1 fr1 A1 cap1 y1 ∧ Cl w' b2 94 [.slice A6 l5.length cap6, .slice A7 l6.length cap7, .slice A8 l7.length cap8] ∧ Ow 1 encI 2 w' fp5 A6 cap6 l5 ∧ OwR 1 encB 120 4 w' fp6 fr4 A7 cap7 l6 ∧ OwR 1 encB 120 4 w' fp7 fr5 A8 cap8 l7 ∧ Sl 1 encI w' fr1 A9 x2 ∧ Ow 1 encB 4 w' [b3] (some ⟨b3, 0, none⟩) (Int.toNat ((y1.length : Int))) l12 ∧ Ow 1 encB 4 w' [b4] (some ⟨b4, 0, none⟩) (Int.toNat ((y1.length : Int))) l13 ∧ Chg [] w0 w' ∧ w0.heap.size ≤ w'.heap.size) ?_ ?_
     ·refine cW_block ?_
      refine cW_loop _ (fun (s4 : Int × (List Bool)) a' w' => ∃ x16 : Int, ∃ l14 : List Bool, (x16, l14) = s4 ∧ Fr 162 [(0, pt b0), (3, .slice A1 y1.length cap1), (4, pt b2), (5, ii x1), (6, .slice A9 x2.length cap9), (7, .slice (some ⟨b3, 0, none⟩) l12.length (Int.toNat ((y1.length : Int)))), (8, .slice (some ⟨b4, 0, none⟩) l14.length (Int.toNat ((y1.length : Int)))), (9, ii x3), (10, .slice A10 x4.length cap10), (11, ii x16)] a' ∧ Sl 1 encI w' fp0_0 A0_0 l0_0 ∧ Sl 1 encI w' fp0_1 A0_1 l0_1 ∧ Cl w' b0 26 [.slice A0_0 l0_0.length cap0_0, .slice A0_1 l0_1.length cap0_1] ∧ OwR 1 encI 24 2 w' fp1 fr1 A1 cap1 y1 ∧ Cl w' b2 94 [.slice A6 l5.length cap6, .slice A7 l6.length cap7, .slice A8 l7.length cap8] ∧ Ow 1 encI 2 w' fp5 A6 cap6 l5 ∧ OwR 1 encB 120 4 w' fp6 fr4 A7 cap7 l6 ∧ OwR 1 encB 120 4 w' fp7 fr5 A8 cap8 l7 ∧ Sl 1 encI w' fr1 A9 x2 ∧ Ow 1 encB 4 w' [b3] (some ⟨b3, 0, none⟩) (Int.toNat ((y1.length : Int))) l12 ∧ Ow 1 encB 4 w' [b4] (some ⟨b4, 0, none⟩) (Int.toNat ((y1.length : Int))) l14 ∧ Sl 1 encI w' fr1 A10 x4 ∧ Chg [] w0 w' ∧ w0.heap.size ≤ w'.heap.size) hr3 (fun hst => ⟨y2, l11, rfl, fO hst, F30, F31, F32, F33, F34, F35, F36, F37, F38, F39, F40, F41, hB, hZ⟩) ?_
      rintro _ c3 a' w15 ⟨x16, l14, rfl, hF4, F42, F43, F44, F45, F46, F47, F48, F49, F50, F51, F52, F53, hB, hZ⟩ hx16
      refine gO hF4 ?_
      have hm := hx16
      unfold m_spec_l03OfPieces_bimplChannel_s13 at hm
      refine cW_seq <| cW_seq ?_
      obtain ⟨s5, hs2, hm⟩ := bindE hm
      refine cW_cut (fun a' w' => ∃ x17 : Bool, x17 = s5 ∧ Fr 162 [(0, pt b0), (3, .slice A1 y1.length cap1), (4, pt b2), (5, ii x1), (6, .slice A9 x2.length cap9), (7, .slice (some ⟨b3, 0, none⟩) l12.length (Int.toNat ((y1.length : Int)))), (8, .slice (some ⟨b4, 0, none⟩) l14.length (Int.toNat ((y1.length : Int)))), (9, ii x3), (10, .slice A10 x4.length cap10), (11, ii x16), (95, .bool (x17))] a' ∧ Sl 1 encI w' fp0_0 A0_0 l0_0 ∧ Sl 1 encI w' fp0_1 A0_1 l0_1 ∧ Cl w' b0 26 [.slice A0_0 l0_0.length cap0_0, .slice A0_1 l0_1.length cap0_1] ∧ OwR 1 encI 24 2 w' fp1 fr1 A1 cap1 y1 ∧ Cl w' b2 94 [.slice A6 l5.length cap6, .slice A7 l6.length cap7, .slice A8 l7.length cap8] ∧ Ow 1 encI 2 w' fp5 A6 cap6 l5 ∧ OwR 1 encB 120 4 w' fp6 fr4 A7 cap7 l6 ∧ OwR 1 encB 120 4 w' fp7 fr5 A8 cap8 l7 ∧ Sl 1 encI w' fr1 A9 x2 ∧ Ow 1 encB 4 w' [b3] (some ⟨b3, 0, none⟩) (Int.toNat ((y1.length : Int))) l12 ∧ Ow 1 encB 4 w' [b4] (some ⟨b4, 0, none⟩) (Int.toNat ((y1.length : Int))) l14 ∧ Sl 1 encI w' fr1 A10 x4 ∧ Chg [] w0 w' ∧ w0.heap.size ≤ w'.heap.size) ?_ ?_
      ·have hm := hs2
       refine cW_drawnTail [] 16 (by kernel_rfl) (by kernel_rfl) (fun w16 hc14 => ?_)
       replace F42 := F42.c hc14
       replace F43 := F43.c hc14
       replace F44 := F44.c hc14
       replace F45 := F45.c hc14
       replace F46 := F46.c hc14
       replace F47 := F47.c hc14
       replace F48 := F48.c hc14
       replace F49 := F49.c hc14
       replace F50 := F50.c hc14
       replace F51 := F51.c hc14
       replace F52 := F52.c hc14
       replace F53 := F53.c hc14
       replace hB := hB.q hc14
       replace hZ := hc14.z hZ
       have hS := Chg.refl [] w16
       have Z25 := F42
       have Z26 := F43
       have Z27 := F44
       have Z28 := F45
       have Z29 := F46
       have Z30 := F47
       have Z31 := F48
       have Z32 := F49
       have Z33 := F50
       have Z34 := F51
       have Z35 := F52
       have Z36 := F53
       refine hT [0, 1] [(79, .slice A9 x2.length cap9), (78, ii x16)] ?_
       obtain ⟨x18, hx17, hm⟩ := bindE hm
       refine hI 2 80 A9 x2.length cap9 .i64 2 sl24 (F50.is hx17) <| hL 3 81 (elA A9 1 (2) 0) (ii x18) vt2 (fun W hW => Sl.cell (Z33.c hW) hx17 0 (by rfl)) ?_
       refine hT [4] [(82, .slice A10 x4.length cap10)] ?_
       obtain ⟨x19, hx18, hm⟩ := bindE hm
       refine hI 5 83 A10 x4.length cap10 .i64 2 sl24 (F53.is hx18) <| hL 6 84 (elA A10 1 (2) 0) (ii x19) vt2 (fun W hW => Sl.cell (Z36.c hW) hx18 0 (by rfl)) ?_
       refine wH_all [7] (by rfl) (by kernel_rfl) (by simp) ⟨⟨by kernel_rfl, ?_⟩, trivial⟩
       obtain ⟨y3, hy3, hm⟩ := bindE hm
       refine sC 85 [ii x18, ii x19] ent100 (c_spec_l00Min hy3) ?_
       rintro _ w17 ⟨rfl, hc15⟩
       replace F42 := F42.c hc15
       replace F43 := F43.c hc15
       replace F44 := F44.c hc15
       replace F45 := F45.c hc15
       replace F46 := F46.c hc15
       replace F47 := F47.c hc15
       replace F48 := F48.c hc15
       replace F49 := F49.c hc15
       replace F50 := F50.c hc15
       replace F51 := F51.c hc15
       replace F52 := F52.c hc15
       replace F53 := F53.c hc15
       replace hB := hB.q hc15
       have hSz := hS
       replace hS := hS.inS hc15 inNil
       replace hZ := hc15.z hZ
       refine ⟨ii y3, rfl, ?_⟩
       refine wS_end (by kernel_rfl) <| eX_KH hS <| hT [8, 9] [(87, .bool (decide (x16 ≤ y3))), (86, .bool (decide (x16 ≤ y3)))] <| wH_bool (decide (x16 ≤ y3)) (fun hb5 => ?_) (fun hb5 => ?_)
       ·have hm := condT hb5 hm
        rewrite [hb5]
        refine hT [10] [(88, .slice A9 x2.length cap9)] ?_
        obtain ⟨x20, hx19, hm⟩ := bindE hm
        refine hI 11 89 A9 x2.length cap9 .i64 0 sl24 (F50.is hx19) <| hL 12 90 (elA A9 1 (0) 0) (ii x20) vt2 (fun W hW => Sl.cell (Z33.c hW) hx19 0 (by rfl)) ?_
        refine hT [13] [(91, .slice A10 x4.length cap10)] ?_
        obtain ⟨x21, hx20, hm⟩ := bindE hm
        refine hI 14 92 A10 x4.length cap10 .i64 0 sl24 (F53.is hx20) <| hL 15 93 (elA A10 1 (0) 0) (ii x21) vt2 (fun W hW => Sl.cell (Z36.c hW) hx20 0 (by rfl)) ?_
        refine wD <| eX_tail <| wP 2 [(95, .bool (x20 != x21)), (94, .bool (x20 != x21))] <| wE ?_
        obtain rfl := someE (x := x20 != x21) hm
        exact eX_J (fun hst => ⟨x20 != x21, rfl, fO hst, F42, F43, F44, F45, F46, F47, F48, F49, F50, F51, F52, F53, hB, hZ⟩)
       have hm := condF hb5 hm
       rewrite [hb5]
       refine hT [10, 11, 12, 13, 14, 15] [(93, undef), (92, undef), (91, undef), (90, undef), (89, undef), (88, undef)] <| wD <| eX_tail <| wP 2 [(95, .bool (false)), (94, undef)] <| wE ?_
       obtain rfl := someE (x := false) hm
       exact eX_J (fun hst => ⟨false, rfl, fO hst, F42, F43, F44, F45, F46, F47, F48, F49, F50, F51, F52, F53, hB, hZ⟩)
      rintro a' w18 ⟨x17, hJ, hF5, F54, F55, F56, F57, F58, F59, F60, F61, F62, F63, F64, F65, hB, hZ⟩
      subst hJ
      refine gX hF5 <| eX_then <| cC x17 (fun hb6 => ?_) (fun hb6 => ?_)
      ·have hm := condT hb6 hm
       refine cW_skip <| eX_then <| cW_seq <| cW_block ?_
       obtain ⟨s6, hs3, hm⟩ := bindE hm
       refine cW_cut (fun a' w' => ∃ l15 : List Bool, l15 = s6 ∧ Fr 162 [(0, pt b0), (3, .slice A1 y1.length cap1), (4, pt b2), (5, ii x1), (6, .slice A9 x2.length cap9), (7, .slice (some ⟨b3, 0, none⟩) l12.length (Int.toNat ((y1.length : Int)))), (8, .slice (some ⟨b4, 0, none⟩) l15.length (Int.toNat ((y1.length : Int)))), (9, ii x3), (10, .slice A10 x4.length cap10), (11, ii x16)] a' ∧ Sl 1 encI w' fp0_0 A0_0 l0_0 ∧ Sl 1 encI w' fp0_1 A0_1 l0_1 ∧ Cl w' b0 26 [.slice A0_0 l0_0.length cap0_0, .slice A0_1 l0_1.length cap0_1] ∧ OwR 1 encI 24 2 w' fp1 fr1 A1 cap1 y1 ∧ Cl w' b2 94 [.slice A6 l5.length cap6, .slice A7 l6.length cap7, .slice A8 l7.length cap8] ∧ Ow 1 encI 2 w' fp5 A6 cap6 l5 ∧ OwR 1 encB 120 4 w' fp6 fr4 A7 cap7 l6 ∧ OwR 1 encB 120 4 w' fp7 fr5 A8 cap8 l7 ∧ Sl 1 encI w' fr1 A9 x2 ∧ Ow 1 encB 4 w' [b3] (some ⟨b3, 0, none⟩) (Int.toNat ((y1.length : Int))) l12 ∧ Ow 1 encB 4 w' [b4] (some ⟨b4, 0, none⟩) (Int.toNat ((y1.length : Int))) l15 ∧ Sl 1 encI w' fr1 A10 x4 ∧ Chg [] w0 w' ∧ w0.heap.size ≤ w'.heap.size) ?_ ?_
       ·have hm := hs3
        refine cW_drawnTail [] 32 (by kernel_rfl) (by kernel_rfl) (fun w19 hc16 => ?_)
        replace F54 := F54.c hc16
        replace F55 := F55.c hc16
        replace F56 := F56.c hc16
        replace F57 := F57.c hc16
        replace F58 := F58.c hc16
        replace F59 := F59.c hc16
        replace F60 := F60.c hc16
        replace F61 := F61.c hc16
        replace F62 := F62.c hc16
        replace F63 := F63.c hc16
        replace F64 := F64.c hc16
        replace F65 := F65.c hc16
        replace hB := hB.q hc16
        replace hZ := hc16.z hZ
        have hS := Chg.refl [] w19
        have Z37 := F54
        have Z38 := F55
        have Z39 := F56
        have Z40 := F57
        have Z41 := F58
        have Z42 := F59
        have Z43 := F60
        have Z44 := F61
        have Z45 := F62
        have Z46 := F63
        have Z47 := F64
        have Z48 := F65
        refine hT [0, 1, 2, 3] [(101, ii x3), (100, .slice (some ⟨b4, 0, none⟩) l14.length (Int.toNat ((y1.length : Int)))), (99, ii x3), (98, .slice (some ⟨b4, 0, none⟩) l14.length (Int.toNat ((y1.length : Int))))] ?_
        obtain ⟨x22, hx21, hm⟩ := bindE hm
        refine hI 4 102 (some ⟨b4, 0, none⟩) l14.length (Int.toNat ((y1.length : Int))) .i64 x3 sl120 ((F64.sl encB_ok).is hx21) <| hL 5 103 (elA (some ⟨b4, 0, none⟩) 1 (x3) 0) (.bool (x22)) vt4 (fun W hW => Sl.cell ((Z47.c hW).sl encB_ok) hx21 0 (by rfl)) ?_
        refine hT [6] [(104, .bool (x22))] <| wH_bool x22 (fun hb7 => ?_) (fun hb7 => ?_)
        ·have hm := condT hb7 hm
         subst hb7
         refine hT [7, 8, 9, 10, 11, 12, 13, 14, 15, 16, 17, 18, 19, 20, 21, 22, 23, 24, 25, 26, 27, 28, 29, 30, 31] [(129, .bool (true)), (128, undef), (127, undef), (126, undef), (125, undef), (124, undef), (123, undef), (122, undef), (121, undef), (120, undef), (119, undef), (118, undef), (117, undef), (116, undef), (115, undef), (114, undef), (113, undef), (112, undef), (111, undef), (110, undef), (109, undef), (108, undef), (107, undef), (106, undef), (105, undef)] <| wD <| eX_tail ?_
         obtain ⟨x23, hx22, hm⟩ := bindE hm
         refine sI 130 (some ⟨b4, 0, none⟩) l14.length (Int.toNat ((y1.length : Int))) .i64 x3 sl120 ((F64.sl encB_ok).is hx22) ?_
         refine wS_storeEl (x := x23) true (T := 4) (U := 4) (cap := (Int.toNat ((y1.length : Int)))) (j := 0) (A := (some ⟨b4, 0, none⟩)) (v := .bool (true)) (vs := [.bool (true)]) (m := x3) (by kernel_rfl) (by rfl) sz4 (by rfl) encB_ok F64 hx22 (by simp only [List.length_cons, List.length_nil]; omega) (by rfl) ?_
         intro w20 F66 hc17
         replace F54 := F54.chg hc17 (Dj.of L0_0 G9)
         replace F55 := F55.chg hc17 (Dj.of L0_1 G9)
         replace F56 := F56.chg hc17 (dj1 (Dj.of L0 G9))
         replace F57 := F57.chg hc17 D19
         replace F58 := F58.chg hc17 (dj1 D20)
         replace F59 := F59.chg hc17 D21
         replace F60 := F60.chg hc17 D22
         replace F61 := F61.chg hc17 D23
         replace F62 := F62.chg hc17 D24
         replace F63 := F63.chg hc17 D25
         replace F65 := F65.chg hc17 ((Dj.inr (D19).symm)).symm
         replace hB := hB.inS hc17 (inLow G9)
         replace hZ := hc17.z hZ
         clear F64
         rewrite [show l14.length = (l14.set (Int.toNat x3) true).length from (List.length_set ..).symm]
         refine wE ?_
         obtain rfl := someE (x := l14.set (Int.toNat x3) true) hm
         exact eX_J (fun hst => ⟨l14.set (Int.toNat x3) true, rfl, fO hst, F54, F55, F56, F57, F58, F59, F60, F61, F62, F63, F66, F65, hB, hZ⟩)
        have hm := condF hb7 hm
        subst hb7
        refine hT [7, 8, 9] [(107, pt b0), (106, pt b0), (105, pt b0)] <| hL 10 108 ⟨b0, 0, none⟩ (.slice A0_0 l0_0.length cap0_0) vt24 (fun W hW => (Z39.c hW).cell 0) ?_
        refine hT [11] [(109, ii x16)] ?_
        obtain ⟨x24, hx23, hm⟩ := bindE hm
        refine hI 12 110 A0_0 l0_0.length cap0_0 .i64 x16 sl24 (F54.is hx23) <| hL 13 111 (elA A0_0 1 (x16) 0) (ii x24) vt2 (fun W hW => Sl.cell (Z37.c hW) hx23 0 (by rfl)) ?_
        refine hT [14] [(112, .slice A9 x2.length cap9)] ?_
        obtain ⟨x25, hx24, hm⟩ := bindE hm
        refine hI 15 113 A9 x2.length cap9 .i64 0 sl24 (F62.is hx24) <| hL 16 114 (elA A9 1 (0) 0) (ii x25) vt2 (fun W hW => Sl.cell (Z45.c hW) hx24 0 (by rfl)) ?_
        refine hT [17, 18] [(116, .bool (x24 == x25)), (115, .bool (x24 == x25))] <| wH_bool (x24 == x25) (fun hb8 => ?_) (fun hb8 => ?_)
        ·have hm := condT hb8 hm
         rewrite [hb8]
         refine hT [19, 20, 21] [(119, .pointer (some ⟨b0, 1, none⟩)), (118, pt b0), (117, pt b0)] <| hL 22 120 ⟨b0, 1, none⟩ (.slice A0_1 l0_1.length cap0_1) vt24 (fun W hW => (Z39.c hW).cell 1) ?_
         refine hT [23] [(121, ii x16)] ?_
         obtain ⟨x26, hx25, hm⟩ := bindE hm
         refine hI 24 122 A0_1 l0_1.length cap0_1 .i64 x16 sl24 (F55.is hx25) <| hL 25 123 (elA A0_1 1 (x16) 0) (ii x26) vt2 (fun W hW => Sl.cell (Z38.c hW) hx25 0 (by rfl)) ?_
         refine hT [26] [(124, .slice A10 x4.length cap10)] ?_
         obtain ⟨x27, hx26, hm⟩ := bindE hm
         refine hI 27 125 A10 x4.length cap10 .i64 0 sl24 (F65.is hx26) <| hL 28 126 (elA A10 1 (0) 0) (ii x27) vt2 (fun W hW => Sl.cell (Z48.c hW) hx26 0 (by rfl)) ?_
         refine hT [29, 30, 31] [(129, .bool (x26 == x27)), (128, .bool (x26 == x27)), (127, .bool (x26 == x27))] <| wD <| eX_tail ?_
         obtain ⟨x28, hx27, hm⟩ := bindE hm
         refine sI 130 (some ⟨b4, 0, none⟩) l14.length (Int.toNat ((y1.length : Int))) .i64 x3 sl120 ((F64.sl encB_ok).is hx27) ?_
         refine wS_storeEl (x := x28) (x26 == x27) (T := 4) (U := 4) (cap := (Int.toNat ((y1.length : Int)))) (j := 0) (A := (some ⟨b4, 0, none⟩)) (v := .bool (x26 == x27)) (vs := [.bool (x26 == x27)]) (m := x3) (by kernel_rfl) (by rfl) sz4 (by rfl) encB_ok F64 hx27 (by simp only [List.length_cons, List.length_nil]; omega) (by rfl) ?_
         intro w21 F67 hc18
         replace F54 := F54.chg hc18 (Dj.of L0_0 G9)
         replace F55 := F55.chg hc18 (Dj.of L0_1 G9)
         replace F56 := F56.chg hc18 (dj1 (Dj.of L0 G9))
         replace F57 := F57.chg hc18 D19
         replace F58 := F58.chg hc18 (dj1 D20)
         replace F59 := F59.chg hc18 D21
         replace F60 := F60.chg hc18 D22
         replace F61 := F61.chg hc18 D23
         replace F62 := F62.chg hc18 D24
         replace F63 := F63.chg hc18 D25
         replace F65 := F65.chg hc18 ((Dj.inr (D19).symm)).symm
         replace hB := hB.inS hc18 (inLow G9)
         replace hZ := hc18.z hZ
         clear F64
         rewrite [show l14.length = (l14.set (Int.toNat x3) (x26 == x27)).length from (List.length_set ..).symm]
         refine wE ?_
         obtain rfl := someE (x := l14.set (Int.toNat x3) (x26 == x27)) hm
         exact eX_J (fun hst => ⟨l14.set (Int.toNat x3) (x26 == x27), rfl, fO hst, F54, F55, F56, F57, F58, F59, F60, F61, F62, F63, F67, F65, hB, hZ⟩)
        have hm := condF hb8 hm
        rewrite [hb8]
        refine hT [19, 20, 21, 22, 23, 24, 25, 26, 27, 28, 29, 30, 31] [(129, .bool (false)), (128, .bool (false)), (127, undef), (126, undef), (125, undef), (124, undef), (123, undef), (122, undef), (121, undef), (120, undef), (119, undef), (118, undef), (117, undef)] <| wD <| eX_tail ?_
        obtain ⟨x29, hx28, hm⟩ := bindE hm
        refine sI 130 (some ⟨b4, 0, none⟩) l14.length (Int.toNat ((y1.length : Int))) .i64 x3 sl120 ((F64.sl encB_ok).is hx28) ?_
        refine wS_storeEl (x := x29) false (T := 4) (U := 4) (cap := (Int.toNat ((y1.length : Int)))) (j := 0) (A := (some ⟨b4, 0, none⟩)) (v := .bool (false)) (vs := [.bool (false)]) (m := x3) (by kernel_rfl) (by rfl) sz4 (by rfl) encB_ok F64 hx28 (by simp only [List.length_cons, List.length_nil]; omega) (by rfl) ?_
        intro w22 F68 hc19
        replace F54 := F54.chg hc19 (Dj.of L0_0 G9)
        replace F55 := F55.chg hc19 (Dj.of L0_1 G9)
        replace F56 := F56.chg hc19 (dj1 (Dj.of L0 G9))
        replace F57 := F57.chg hc19 D19
        replace F58 := F58.chg hc19 (dj1 D20)
        replace F59 := F59.chg hc19 D21
        replace F60 := F60.chg hc19 D22
        replace F61 := F61.chg hc19 D23
        replace F62 := F62.chg hc19 D24
        replace F63 := F63.chg hc19 D25
        replace F65 := F65.chg hc19 ((Dj.inr (D19).symm)).symm
        replace hB := hB.inS hc19 (inLow G9)
        replace hZ := hc19.z hZ
        clear F64
        rewrite [show l14.length = (l14.set (Int.toNat x3) false).length from (List.length_set ..).symm]
        refine wE ?_
        obtain rfl := someE (x := l14.set (Int.toNat x3) false) hm
        exact eX_J (fun hst => ⟨l14.set (Int.toNat x3) false, rfl, fO hst, F54, F55, F56, F57, F58, F59, F60, F61, F62, F63, F68, F65, hB, hZ⟩)
       rintro a' w23 ⟨l15, hJ, hF6, F69, F70, F71, F72, F73, F74, F75, F76, F77, F78, F79, F80, hB, hZ⟩
       subst hJ
       refine gX hF6 <| eX_block <| eX_then <| cW_region <| wP 3 [(11, ii (wr (x16 + 1))), (97, ii (wr (x16 + 1))), (96, ii x16)] <| wE ?_
       obtain rfl := someE (x := (Ctl.next ((wr (x16 + 1), l15)))) hm
       exact eX_next hx16 (fun hst => ⟨wr (x16 + 1), l15, rfl, fO hst, F69, F70, F71, F72, F73, F74, F75, F76, F77, F78, F79, F80, hB, hZ⟩)
      have hm := condF hb6 hm
      refine cW_exit <| eX_then_exit ?_
      obtain rfl := someE (x := Ctl.out l14) hm
      refine eX_outX hx16 (fun hr4 => ?_)
      replace hr4 := hr4.symm
      subst hr4
      refine eX_block_hit ?_
      exact eX_J (fun hst => ⟨l14, rfl, fO hst, F54, F55, F56, F57, F58, F59, F60, F61, F62, F63, F64, hB, hZ⟩)
     rintro a' w24 ⟨l13, hJ, hF7, F81, F82, F83, F84, F85, F86, F87, F88, F89, F90, F91, hB, hZ⟩
     subst hJ
     refine gX hF7 <| eX_block <| eX_then <| cW_region <| wP 3 [(9, ii (wr (x3 + 1))), (38, ii (wr (x3 + 1))), (37, ii x3)] <| wE ?_
     obtain rfl := someE (x := (Ctl.next ((wr (x3 + 1), l12, l13)))) hm
     exact eX_next hx3 (fun hst => ⟨wr (x3 + 1), l12, l13, rfl, fO hst, F81, F82, F83, F84, F85, F86, F87, F88, F89, F90, F91, hB, hZ⟩)
    have hm := condF hb2 hm
    refine cW_exit <| eX_then_exit ?_
    obtain rfl := someE (x := (Ctl.out ((l10, l11)))) hm
    refine eX_outX hx3 (fun hr5 => ?_)
    replace hr5 := hr5.symm
    subst hr5
    refine eX_block_hit ?_
    exact eX_J (fun hst => ⟨l10, l11, rfl, fO hst, F15, F16, F17, F18, F19, F20, F21, F22, F24, F25, hB, hZ⟩)
   rintro a' w25 ⟨l8, l9, hJ, hF8, F92, F93, F94, F95, F96, F97, F98, F99, F100, F101, hB, hZ⟩
   subst hJ
   refine gX hF8 <| eX_then <| sR <| wP 4 [(134, pt b2), (133, pt b2), (132, pt b2), (131, pt b2)] <| sL 135 ⟨b2, 0, none⟩ (.slice A6 l5.length cap6) vt24 ((F96).cell 0) <| wP 1 [(136, ii x1)] <| wS_bs (enc := encI) ([x1] : List Int) [ii x1] (d := 137) (t := 24) (T := 2) (n := 1) (ps := [(0, ii x1)]) (by kernel_rfl) el24 encI_ok (by rfl) (by omega) (by omega) (by kernel_rfl) (by rfl) ?_
   intro b5 w26 G11 F102 hc20
   have D26 : Dj (fp1 ++ fr1) [b5] := Dj.of F95.low (low1 G11)
   have D27 : Dj [b2] [b5] := Dj.of (lt1 F96.lt) (low1 G11)
   have D28 : Dj fp5 [b5] := Dj.of F97.low (low1 G11)
   have D29 : Dj (fp6 ++ fr4) [b5] := Dj.of F98.low (low1 G11)
   have D30 : Dj (fp7 ++ fr5) [b5] := Dj.of F99.low (low1 G11)
   have D31 : Dj [b3] [b5] := Dj.of F100.low (low1 G11)
   have D32 : Dj [b4] [b5] := Dj.of F101.low (low1 G11)
   replace F92 := F92.c hc20
   replace F93 := F93.c hc20
   replace F94 := F94.c hc20
   replace F95 := F95.c hc20
   replace F96 := F96.c hc20
   replace F97 := F97.c hc20
   replace F98 := F98.c hc20
   replace F99 := F99.c hc20
   replace F100 := F100.c hc20
   replace F101 := F101.c hc20
   replace hB := hB.q hc20
   replace G11 := Nat.le_trans hZ G11
   replace G11 := low1 G11
   replace hZ := hc20.z hZ
   obtain ⟨_, hk3, hm⟩ := bindE hm
   replace hk3 := apE hk3
   refine wS_append (enc := encI) (l := (l5 : List Int)) (l2 := (([x1] : List Int) : List Int)) (d := 138) (t := 24) (T := 2) (A := A6) (A2 := (some ⟨b5, 0, none⟩)) (cap := cap6) (cap2 := 1) (by kernel_rfl) el24 encI_ok F97 (F102.sl encI_ok) (by rfl) hk3 ?_
   intro w27 fp8 A11 cap11 F103 hc21 hp1
   have G12 := low_ap G4 hZ hp1
   have D33 : Dj (fp1 ++ fr1) fp8 := Dj.ap D4 F95.low hp1
   have D34 : Dj [b2] fp8 := Dj.ap D5 (lt1 F96.lt) hp1
   have D35 : Dj (fp6 ++ fr4) fp8 := Dj.ap D6 F98.low hp1
   have D36 : Dj (fp7 ++ fr5) fp8 := Dj.ap D7 F99.low hp1
   have D37 : Dj [b3] fp8 := Dj.ap (D15).symm F100.low hp1
   have D38 : Dj [b4] fp8 := Dj.ap (D21).symm F101.low hp1
   have D39 : Dj [b5] fp8 := Dj.ap (D28).symm F102.low hp1
   replace F92 := F92.chg hc21 (Dj.of L0_0 G4)
   replace F93 := F93.chg hc21 (Dj.of L0_1 G4)
   replace F94 := F94.chg hc21 (dj1 (Dj.of L0 G4))
   replace F95 := F95.chg hc21 D4
   replace F96 := F96.chg hc21 (dj1 D5)
   replace F98 := F98.chg hc21 D6
   replace F99 := F99.chg hc21 D7
   replace F100 := F100.chg hc21 (D15).symm
   replace F101 := F101.chg hc21 (D21).symm
   replace F102 := F102.chg hc21 (D28).symm
   replace hB := hB.inS hc21 (inLow G4)
   replace hZ := hc21.z hZ
   refine wP 2 [(140, pt b2), (139, pt b2)] ?_
   refine wS_store (T := 24) (g := b2) (o := 0) (ad := ⟨b2, 0, none⟩) (v := .slice A11 (l5 ++ (([x1] : List Int))).length cap11) (vs := [.slice A11 (l5 ++ (([x1] : List Int))).length cap11]) (by kernel_rfl) (by rfl) sz24 (by rfl) (by rfl) F96 (by simp only [List.length_cons, List.length_nil]; omega) ?_
   intro w28 F104 hc22
   replace F92 := F92.chg hc22 (Dj.of L0_0 (low1 G3))
   replace F93 := F93.chg hc22 (Dj.of L0_1 (low1 G3))
   replace F94 := F94.chg hc22 (dj1 (Dj.of L0 (low1 G3)))
   replace F95 := F95.chg hc22 D2
   replace F98 := F98.chg hc22 (D9).symm
   replace F99 := F99.chg hc22 (D12).symm
   replace F100 := F100.chg hc22 (D14).symm
   replace F101 := F101.chg hc22 (D20).symm
   replace F102 := F102.chg hc22 (D27).symm
   replace F103 := F103.chg hc22 (D34).symm
   replace hB := hB.inS hc22 (inLow (low1 G3))
   replace hZ := hc22.z hZ
   replace F104 : Cl w28 b2 94 [.slice A11 (l5 ++ (([x1] : List Int))).length cap11, .slice A7 l6.length cap7, .slice A8 l7.length cap8] := F104
   clear F96
   refine wN <| sR <| wP 4 [(144, .pointer (some ⟨b2, 1, none⟩)), (143, pt b2), (142, pt b2), (141, pt b2)] <| sL 145 ⟨b2, 1, none⟩ (.slice A7 l6.length cap7) vt92 ((F104).cell 1) <| wP 1 [(146, .slice (some ⟨b3, 0, none⟩) l8.length (Int.toNat ((y1.length : Int))))] <| wS_row1 (k := 1) (enc := encB) (l := l8) (d := 147) (t := 92) (T := 120) (B := (some ⟨b3, 0, none⟩)) (c := (Int.toNat ((y1.length : Int)))) (by kernel_rfl) el92 F100 ?_
   intro b6 w29 G13 F105 hc23
   have D40 : Dj (fp1 ++ fr1) ([b6] ++ [b3]) := Dj.app (Dj.of F95.low (low1 G13)) D13
   have D41 : Dj [b2] ([b6] ++ [b3]) := Dj.app (Dj.of (lt1 F104.lt) (low1 G13)) D14
   have D42 : Dj (fp6 ++ fr4) ([b6] ++ [b3]) := Dj.app (Dj.of F98.low (low1 G13)) D16
   have D43 : Dj (fp7 ++ fr5) ([b6] ++ [b3]) := Dj.app (Dj.of F99.low (low1 G13)) D17
   have D44 : Dj [b4] ([b6] ++ [b3]) := Dj.app (Dj.of F101.low (low1 G13)) (D25).symm
   have D45 : Dj [b5] ([b6] ++ [b3]) := Dj.app (Dj.of F102.low (low1 G13)) (D31).symm
   have D46 : Dj fp8 ([b6] ++ [b3]) := Dj.app (Dj.of F103.low (low1 G13)) (D37).symm
   replace F92 := F92.c hc23
   replace F93 := F93.c hc23
   replace F94 := F94.c hc23
   replace F95 := F95.c hc23
   replace F104 := F104.c hc23
   replace F98 := F98.c hc23
   replace F99 := F99.c hc23
   replace F100 := F100.c hc23
   replace F101 := F101.c hc23
   replace F102 := F102.c hc23
   replace F103 := F103.c hc23
   replace hB := hB.q hc23
   replace G13 := Nat.le_trans hZ G13
   replace G13 := lowApp (low1 G13) G8
   replace hZ := hc23.z hZ
   replace F100 := (F100.sl encB_ok)
   obtain ⟨_, hk4, hm⟩ := bindE hm
   replace hk4 := apE hk4
   refine wS_appendR (k := 1) (enc := encB) (ll := (l6 : List (List Bool))) (ll2 := (([l8] : List (List Bool)) : List (List Bool))) (d := 148) (t := 92) (T := 120) (A := A7) (A2 := (some ⟨b6, 0, none⟩)) (cap := cap7) (cap2 := 1) (by kernel_rfl) el92 F98 F105 (by rfl) D42 hk4 ?_
   intro w30 fp9 A12 cap12 F106 hc24 hp2
   have G14 := lowApp (low_ap (low_inl G5) hZ hp2) (lowApp (low_inr G5) (low_inr G13))
   have D47 : Dj (fp1 ++ fr1) (fp9 ++ (fr4 ++ [b3])) := Dj.app (Dj.ap (Dj.inl D8) F95.low hp2) (Dj.app (Dj.inr D8) (Dj.inr D40))
   have D48 : Dj [b2] (fp9 ++ (fr4 ++ [b3])) := Dj.app (Dj.ap (Dj.inl D9) (lt1 F104.lt) hp2) (Dj.app (Dj.inr D9) (Dj.inr D41))
   have D49 : Dj (fp7 ++ fr5) (fp9 ++ (fr4 ++ [b3])) := Dj.app (Dj.ap (Dj.inl D10) F99.low hp2) (Dj.app (Dj.inr D10) (Dj.inr D43))
   have D50 : Dj [b4] (fp9 ++ (fr4 ++ [b3])) := Dj.app (Dj.ap (Dj.inl (D22).symm) F101.low hp2) (Dj.app (Dj.inr (D22).symm) (Dj.inr D44))
   have D51 : Dj [b5] (fp9 ++ (fr4 ++ [b3])) := Dj.app (Dj.ap (Dj.inl (D29).symm) F102.low hp2) (Dj.app (Dj.inr (D29).symm) (Dj.inr D45))
   have D52 : Dj fp8 (fp9 ++ (fr4 ++ [b3])) := Dj.app (Dj.ap (Dj.inl (D35).symm) F103.low hp2) (Dj.app (Dj.inr (D35).symm) (Dj.inr D46))
   replace F92 := F92.chg hc24 (Dj.inl (Dj.of L0_0 G5))
   replace F93 := F93.chg hc24 (Dj.inl (Dj.of L0_1 G5))
   replace F94 := F94.chg hc24 (dj1 (Dj.inl (Dj.of L0 G5)))
   replace F95 := F95.chg hc24 (Dj.inl D8)
   replace F104 := F104.chg hc24 (dj1 (Dj.inl D9))
   replace F99 := F99.chg hc24 (Dj.inl D10)
   replace F101 := F101.chg hc24 (Dj.inl (D22).symm)
   replace F102 := F102.chg hc24 (Dj.inl (D29).symm)
   replace F103 := F103.chg hc24 (Dj.inl (D35).symm)
   replace hB := hB.inS hc24 (memS_inl (inLow G5))
   replace hZ := hc24.z hZ
   refine wP 2 [(150, .pointer (some ⟨b2, 1, none⟩)), (149, pt b2)] ?_
   refine wS_store (T := 92) (g := b2) (o := 1) (ad := ⟨b2, 1, none⟩) (v := .slice A12 (l6 ++ (([l8] : List (List Bool)))).length cap12) (vs := [.slice A12 (l6 ++ (([l8] : List (List Bool)))).length cap12]) (by kernel_rfl) (by rfl) sz92 (by rfl) (by rfl) F104 (by simp only [List.length_cons, List.length_nil]; omega) ?_
   intro w31 F107 hc25
   replace F92 := F92.chg hc25 (Dj.of L0_0 (low1 G3))
   replace F93 := F93.chg hc25 (Dj.of L0_1 (low1 G3))
   replace F94 := F94.chg hc25 (dj1 (Dj.of L0 (low1 G3)))
   replace F95 := F95.chg hc25 D2
   replace F99 := F99.chg hc25 (D12).symm
   replace F101 := F101.chg hc25 (D20).symm
   replace F102 := F102.chg hc25 (D27).symm
   replace F103 := F103.chg hc25 (D34).symm
   replace F106 := F106.chg hc25 (D48).symm
   replace hB := hB.inS hc25 (inLow (low1 G3))
   replace hZ := hc25.z hZ
   replace F107 : Cl w31 b2 94 [.slice A11 (l5 ++ (([x1] : List Int))).length cap11, .slice A12 (l6 ++ (([l8] : List (List Bool)))).length cap12, .slice A8 l7.length cap8] := F107
   clear F104
   refine wN <| cP [(0, pt b0), (3, .slice A1 y1.length cap1), (4, pt b2), (5, ii x1), (8, .slice (some ⟨b4, 0, none⟩) l9.length (Int.toNat ((y1.length : Int))))] (fun a1 => ?_)
   refine cW_region <| wP 4 [(154, .pointer (some ⟨b2, 2, none⟩)), (153, pt b2), (152, pt b2), (151, pt b2)] <| sL 155 ⟨b2, 2, none⟩ (.slice A8 l7.length cap8) vt92 ((F107).cell 2) <| wP 1 [(156, .slice (some ⟨b4, 0, none⟩) l9.length (Int.toNat ((y1.length : Int))))] <| wS_row1 (k := 1) (enc := encB) (l := l9) (d := 157) (t := 92) (T := 120) (B := (some ⟨b4, 0, none⟩)) (c := (Int.toNat ((y1.length : Int)))) (by kernel_rfl) el92 F101 ?_
   intro b7 w32 G15 F108 hc26
   have D53 : Dj (fp1 ++ fr1) ([b7] ++ [b4]) := Dj.app (Dj.of F95.low (low1 G15)) D19
   have D54 : Dj [b2] ([b7] ++ [b4]) := Dj.app (Dj.of (lt1 F107.lt) (low1 G15)) D20
   have D55 : Dj (fp7 ++ fr5) ([b7] ++ [b4]) := Dj.app (Dj.of F99.low (low1 G15)) D23
   have D56 : Dj [b5] ([b7] ++ [b4]) := Dj.app (Dj.of F102.low (low1 G15)) (D32).symm
   have D57 : Dj fp8 ([b7] ++ [b4]) := Dj.app (Dj.of F103.low (low1 G15)) (D38).symm
   have D58 : Dj (fp9 ++ (fr4 ++ [b3])) ([b7] ++ [b4]) := Dj.app (Dj.of F106.low (low1 G15)) (D50).symm
   replace F92 := F92.c hc26
   replace F93 := F93.c hc26
   replace F94 := F94.c hc26
   replace F95 := F95.c hc26
   replace F107 := F107.c hc26
   replace F99 := F99.c hc26
   replace F101 := F101.c hc26
   replace F102 := F102.c hc26
   replace F103 := F103.c hc26
   replace F106 := F106.c hc26
   replace hB := hB.q hc26
   replace G15 := Nat.le_trans hZ G15
   replace G15 := lowApp (low1 G15) G9
   replace hZ := hc26.z hZ
   replace F101 := (F101.sl encB_ok)
   obtain ⟨_, hk5, hm⟩ := bindE hm
   replace hk5 := apE hk5
   refine wS_appendR (k := 1) (enc := encB) (ll := (l7 : List (List Bool))) (ll2 := (([l9] : List (List Bool)) : List (List Bool))) (d := 158) (t := 92) (T := 120) (A := A8) (A2 := (some ⟨b7, 0, none⟩)) (cap := cap8) (cap2 := 1) (by kernel_rfl) el92 F99 F108 (by rfl) D55 hk5 ?_
   intro w33 fp10 A13 cap13 F109 hc27 hp3
   have G16 := lowApp (low_ap (low_inl G6) hZ hp3) (lowApp (low_inr G6) (low_inr G15))
   have D59 : Dj (fp1 ++ fr1) (fp10 ++ (fr5 ++ [b4])) := Dj.app (Dj.ap (Dj.inl D11) F95.low hp3) (Dj.app (Dj.inr D11) (Dj.inr D53))
   have D60 : Dj [b2] (fp10 ++ (fr5 ++ [b4])) := Dj.app (Dj.ap (Dj.inl D12) (lt1 F107.lt) hp3) (Dj.app (Dj.inr D12) (Dj.inr D54))
   have D61 : Dj [b5] (fp10 ++ (fr5 ++ [b4])) := Dj.app (Dj.ap (Dj.inl (D30).symm) F102.low hp3) (Dj.app (Dj.inr (D30).symm) (Dj.inr D56))
   have D62 : Dj fp8 (fp10 ++ (fr5 ++ [b4])) := Dj.app (Dj.ap (Dj.inl (D36).symm) F103.low hp3) (Dj.app (Dj.inr (D36).symm) (Dj.inr D57))
   have D63 : Dj (fp9 ++ (fr4 ++ [b3])) (fp10 ++ (fr5 ++ [b4])) := Dj.app (Dj.ap (Dj.inl (D49).symm) F106.low hp3) (Dj.app (Dj.inr (D49).symm) (Dj.inr D58))
   replace F92 := F92.chg hc27 (Dj.inl (Dj.of L0_0 G6))
   replace F93 := F93.chg hc27 (Dj.inl (Dj.of L0_1 G6))
   replace F94 := F94.chg hc27 (dj1 (Dj.inl (Dj.of L0 G6)))
   replace F95 := F95.chg hc27 (Dj.inl D11)
   replace F107 := F107.chg hc27 (dj1 (Dj.inl D12))
   replace F102 := F102.chg hc27 (Dj.inl (D30).symm)
   replace F103 := F103.chg hc27 (Dj.inl (D36).symm)
   replace F106 := F106.chg hc27 (Dj.inl (D49).symm)
   replace hB := hB.inS hc27 (memS_inl (inLow G6))
   replace hZ := hc27.z hZ
   refine wP 2 [(160, .pointer (some ⟨b2, 2, none⟩)), (159, pt b2)] ?_
   refine wS_store (T := 92) (g := b2) (o := 2) (ad := ⟨b2, 2, none⟩) (v := .slice A13 (l7 ++ (([l9] : List (List Bool)))).length cap13) (vs := [.slice A13 (l7 ++ (([l9] : List (List Bool)))).length cap13]) (by kernel_rfl) (by rfl) sz92 (by rfl) (by rfl) F107 (by simp only [List.length_cons, List.length_nil]; omega) ?_
   intro w34 F110 hc28
   replace F92 := F92.chg hc28 (Dj.of L0_0 (low1 G3))
   replace F93 := F93.chg hc28 (Dj.of L0_1 (low1 G3))
   replace F94 := F94.chg hc28 (dj1 (Dj.of L0 (low1 G3)))
   replace F95 := F95.chg hc28 D2
   replace F102 := F102.chg hc28 (D27).symm
   replace F103 := F103.chg hc28 (D34).symm
   replace F106 := F106.chg hc28 (D48).symm
   replace F109 := F109.chg hc28 (D60).symm
   replace hB := hB.inS hc28 (inLow (low1 G3))
   replace hZ := hc28.z hZ
   replace F110 : Cl w34 b2 94 [.slice A11 (l5 ++ (([x1] : List Int))).length cap11, .slice A12 (l6 ++ (([l8] : List (List Bool)))).length cap12, .slice A13 (l7 ++ (([l9] : List (List Bool)))).length cap13] := F110
   clear F107
   refine wE <| eX_block <| eX_then <| cW_region <| wP 3 [(5, ii (wr (x1 + 1))), (22, ii (wr (x1 + 1))), (21, ii x1)] <| wE ?_
   obtain rfl := someE (x := (Ctl.next ((wr (x1 + 1), l5 ++ (([x1] : List Int)), l6 ++ (([l8] : List (List Bool))), l7 ++ (([l9] : List (List Bool))))))) hm
   exact eX_next hx1 (fun hst => ⟨wr (x1 + 1), l5 ++ (([x1] : List Int)), A11, cap11, fp8, l6 ++ (([l8] : List (List Bool))), A12, cap12, fp9, (fr4 ++ [b3]), l7 ++ (([l9] : List (List Bool))), A13, cap13, fp10, (fr5 ++ [b4]), rfl, fO hst, F92, F93, F94, F95, F110, F103, F106, F109, G12, G14, G16, D33, D34, (D52).symm, (D62).symm, D47, D48, (D63).symm, D59, D60, hB, hZ⟩)
  have hm := condF hb1 hm
  refine cW_exit <| eX_then_exit ?_
  obtain rfl := someE (x := (Ctl.out ((l5, l6, l7)))) hm
  refine eX_outX hx1 (fun hr6 => ?_)
  replace hr6 := hr6.symm
  subst hr6
  refine eX_block_hit ?_
  exact eX_J (fun hst => ⟨l5, A6, cap6, fp5, l6, A7, cap7, fp6, fr4, l7, A8, cap8, fp7, fr5, rfl, fO hst, F8, F9, F10, F11, G4, G5, G6, D5, D6, D7, D9, D10, D12, hB, hZ⟩)
 rintro a' w35 ⟨l1, A3, cap3, fp2, l3, A4, cap4, fp3, fr2, l4, A5, cap5, fp4, fr3, hJ, hF9, F111, F112, F113, F114, G17, G18, G19, D64, D65, D66, D67, D68, D69, hB, hZ⟩
 subst hJ
 refine gX hF9 <| eX_then <| sR <| wP 2 [(2, pt b2), (161, pt b2)] <| wN <| cW_ret ?_
 obtain rfl := someE (x := ((l1, l3, l4))) hm
 refine rA (pt b2) 2 ?_
 exact ⟨b2, A3, cap3, fp2, A4, cap4, fp3, fr2, A5, cap5, fp4, fr3, rfl, F111, G3, F112, G17, F113, G18, F114, G19, D64, D67, D69, (D65).symm, (D66).symm, (D68).symm, hB⟩

set_option maxRecDepth 100000 in
/-- spec.FewestWithDoglegs -/
theorem c_spec_FewestWithDoglegs {w0 : World} {l0_0 : List Int} {A0_0 : Option Addr} {cap0_0 : Nat} {fp0_0 : List Nat} {l0_1 : List Int} {A0_1 : Option Addr} {cap0_1 : Nat} {fp0_1 : List Nat} {r : (List (List Int)) × Bool} (hm : m_spec_FewestWithDoglegs l0_0 l0_1 = some r) (F0_0 : Sl 1 encI w0 fp0_0 A0_0 l0_0) (F0_1 : Sl 1 encI w0 fp0_1 A0_1 l0_1) :
  Calls Tryd.prog 28 #[.agg #[.slice A0_0 l0_0.length cap0_0, .slice A0_1 l0_1.length cap0_1]] w0 fun e w' => ∃ A100 cap100 fp100 fr100, e = .returned (.tuple #[.slice A100 r.1.length cap100, .bool (r.2)]) ∧ OwR 1 encI 24 2 w' fp100 fr100 A100 cap100 r.1 ∧ (∀ x ∈ fp100 ++ fr100, w0.heap.size ≤ x) ∧ Chg [] w0 w' := by
 have L0_0 := F0_0.low
 have L0_1 := F0_1.low
 have hB : Chg [] w0 w0 := Chg.refl _ _
 have hZ := Nat.le_refl w0.heap.size
 unfold m_spec_FewestWithDoglegs at hm
 refine enterE (N := 18) Tryd.func28 (by rfl) Tryd.ntmps28 (by simp) [(0, .agg #[.slice A0_0 l0_0.length cap0_0, .slice A0_1 l0_1.length cap0_1])] (by rfl) (by kernel_rfl) (fun a => ?_)
 refine sR <| wS_box (d := 1) (T := 26) (x := .agg #[.slice A0_0 l0_0.length cap0_0, .slice A0_1 l0_1.length cap0_1]) (by kernel_rfl) ?_
 intro b1 w1 G1 F1 hc1
 replace F1 : Cl w1 b1 26 [.slice A0_0 l0_0.length cap0_0, .slice A0_1 l0_1.length cap0_1] := F1
 replace F0_0 := F0_0.c hc1
 replace F0_1 := F0_1.c hc1
 replace hB := hB.q hc1
 replace G1 := Nat.le_trans hZ G1
 replace hZ := hc1.z hZ
 refine wP 2 [(3, .bool (false)), (2, .slice none 0 0)] <| wN <| cW_seq <| sR ?_
 obtain ⟨y1, hy1, hm⟩ := bindE hm
 refine sC 5 [pt b1] ent60 (c_spec_l03Is_bimplChannel hy1 F0_0 F0_1 F1) ?_
 rintro _ w2 ⟨rfl, hc2⟩
 replace F0_0 := F0_0.c hc2
 replace F0_1 := F0_1.c hc2
 replace F1 := F1.c hc2
 replace hB := hB.q hc2
 replace hZ := hc2.z hZ
 refine ⟨.bool (y1), rfl, ?_⟩
 refine wP 1 [(6, .bool (!y1))] <| wN <| cC (!y1) (fun hb1 => ?_) (fun hb1 => ?_)
 ·have hm := condT hb1 hm
  refine sR <| wP 2 [(3, .bool (false)), (2, .slice none 0 0)] <| wN <| cW_ret <| eX_then_ret ?_
  obtain rfl := someE (x := (([], false))) hm
  refine rB (.slice none 0 0) (.bool (false)) 2 3 ?_
  exact ⟨none, 0, [], [], rfl, OwR.nil _, (lowApp lowNil lowNil), hB⟩
 have hm := condF hb1 hm
 refine cW_skip <| eX_then <| sR ?_
 obtain ⟨y2, hy2, hm⟩ := bindE hm
 refine sC 7 [pt b1] ent69 (c_spec_l03OfPieces_bimplChannel hy2 F0_0 F0_1 F1) ?_
 rintro _ w3 ⟨b2, A1, cap1, fp1, A2, cap2, fp2, fr1, A3, cap3, fp3, fr2, rfl, F2, G2, F3, G3, F4, G4, F5, G5, D1, D2, D3, D4, D5, D6, hc3⟩
 have D7 : Dj [b1] [b2] := Dj.of (lt1 F1.lt) (low1 G2)
 have D8 : Dj [b1] fp1 := Dj.of (lt1 F1.lt) G3
 have D9 : Dj [b1] (fp2 ++ fr1) := Dj.of (lt1 F1.lt) G4
 have D10 : Dj [b1] (fp3 ++ fr2) := Dj.of (lt1 F1.lt) G5
 replace F0_0 := F0_0.c hc3
 replace F0_1 := F0_1.c hc3
 replace F1 := F1.c hc3
 replace hB := hB.q hc3
 replace G2 := Nat.le_trans hZ G2
 replace G3 := low_le hZ G3
 replace G4 := low_le hZ G4
 replace G5 := low_le hZ G5
 replace hZ := hc3.z hZ
 refine ⟨pt b2, rfl, ?_⟩
 refine wP 1 [(4, pt b2)] <| wN <| cW_seq <| sR <| wP 3 [(10, pt b2), (9, pt b2), (8, pt b2)] <| sL 11 ⟨b2, 0, none⟩ (.slice A1 y2.1.length cap1) vt24 ((F2).cell 0) <| wP 2 [(13, .bool (decide (((y2.1.length : Int)) > 12))), (12, ii (y2.1.length : Int))] <| wN <| cC (decide (((y2.1.length : Int)) > 12)) (fun hb2 => ?_) (fun hb2 => ?_)
 ·have hm := condT hb2 hm
  refine sR <| wP 2 [(3, .bool (false)), (2, .slice none 0 0)] <| wN <| cW_ret <| eX_then_ret ?_
  obtain rfl := someE (x := (([], false))) hm
  refine rB (.slice none 0 0) (.bool (false)) 2 3 ?_
  exact ⟨none, 0, [], [], rfl, OwR.nil _, (lowApp lowNil lowNil), hB⟩
 have hm := condF hb2 hm
 refine cW_skip <| eX_then <| sR <| wP 1 [(14, pt b2)] ?_
 obtain ⟨y3, hy3, hm⟩ := bindE hm
 refine sC 15 [pt b2] ent64 (c_spec_l03Fewest_bspecl03Things hy3 (F3.sl encI_ok) (F4.slr encB_ok) (F5.slr encB_ok) F2) ?_
 rintro _ w4 ⟨A4, cap4, fp4, fr3, rfl, F6, G6, hc4⟩
 have D11 : Dj [b1] (fp4 ++ fr3) := Dj.of (lt1 F1.lt) G6
 have D12 : Dj [b2] (fp4 ++ fr3) := Dj.of (lt1 F2.lt) G6
 have D13 : Dj fp1 (fp4 ++ fr3) := Dj.of F3.low G6
 have D14 : Dj (fp2 ++ fr1) (fp4 ++ fr3) := Dj.of F4.low G6
 have D15 : Dj (fp3 ++ fr2) (fp4 ++ fr3) := Dj.of F5.low G6
 replace F0_0 := F0_0.c hc4
 replace F0_1 := F0_1.c hc4
 replace F1 := F1.c hc4
 replace F2 := F2.c hc4
 replace F3 := F3.c hc4
 replace F4 := F4.c hc4
 replace F5 := F5.c hc4
 replace hB := hB.q hc4
 replace G6 := low_le hZ G6
 replace hZ := hc4.z hZ
 refine ⟨.tuple #[.slice A4 y3.1.length cap4, .bool (y3.2)], rfl, ?_⟩
 refine wP 4 [(3, .bool (y3.2)), (2, .slice A4 y3.1.length cap4), (17, .bool (y3.2)), (16, .slice A4 y3.1.length cap4)] <| wN <| cW_ret ?_
 obtain rfl := someE (x := ((y3.1, y3.2))) hm
 refine rB (.slice A4 y3.1.length cap4) (.bool (y3.2)) 2 3 ?_
 exact ⟨A4, cap4, fp4, fr3, rfl, F6, G6, hB⟩

set_option maxRecDepth 100000 in
/-- impl.FewestWithDoglegs$1 -/
theorem c_impl_FewestWithDoglegs_1 {w0 : World} {p0 : Int} {r : (Int)} (hm : m_impl_FewestWithDoglegs_1 p0 = some r)  :
  Calls Tryd.prog 72 #[ii p0] w0 fun e w' => e = .returned (ii r) ∧ Chg [] w0 w' := by
 have hB : Chg [] w0 w0 := Chg.refl _ _
 have hZ := Nat.le_refl w0.heap.size
 unfold m_impl_FewestWithDoglegs_1 at hm
 refine enterE (N := 4) Tryd.func72 (by rfl) Tryd.ntmps72 (by simp) [(0, ii p0)] (by rfl) (by kernel_rfl) (fun a => ?_)
 refine sR <| wP 1 [(2, ii 0)] <| wN <| sR <| wP 2 [(2, ii p0), (3, ii p0)] <| wN <| cW_ret ?_
 obtain rfl := someE (x := p0) hm
 refine rA (ii p0) 2 ?_
 exact ⟨rfl, hB⟩

set_option maxRecDepth 100000 in
/-- impl.Channel).pieces -/
theorem c_impl_Channel_pieces_bimplChannel {w0 : World} {l0_0 : List Int} {A0_0 : Option Addr} {cap0_0 : Nat} {fp0_0 : List Nat} {l0_1 : List Int} {A0_1 : Option Addr} {cap0_1 : Nat} {fp0_1 : List Nat} {b0 : Nat} {r : (List (List Int))} (hm : m_impl_Channel_pieces_bimplChannel l0_0 l0_1 = some r) (F0_0 : Sl 1 encI w0 fp0_0 A0_0 l0_0) (F0_1 : Sl 1 encI w0 fp0_1 A0_1 l0_1) (F0 : Cl w0 b0 26 [.slice A0_0 l0_0.length cap0_0, .slice A0_1 l0_1.length cap0_1]) :
  Calls Tryd.prog 70 #[pt b0] w0 fun e w' => ∃ A100 cap100 fp100 fr100, e = .returned (.slice A100 r.length cap100) ∧ OwR 1 encI 24 2 w' fp100 fr100 A100 cap100 r ∧ (∀ x ∈ fp100 ++ fr100, w0.heap.size ≤ x) ∧ Chg [] w0 w' := by
 have L0_0 := F0_0.low
 have L0_1 := F0_1.low
 have L0 := lt1 F0.lt
 have hB : Chg [] w0 w0 := Chg.refl _ _
 have hZ := Nat.le_refl w0.heap.size
 unfold m_impl_Channel_pieces_bimplChannel at hm
 refine enterE (N := 41) Tryd.func70 (by rfl) Tryd.ntmps70 (by simp) [(0, pt b0)] (by rfl) (by kernel_rfl) (fun a => ?_)
 refine sR <| wP 1 [(2, .slice none 0 0)] <| wN <| sR <| wS_rows0 (k := 1) (enc := encI) (d := 8) (t := 28) (T := 24) (T2 := 2) (by kernel_rfl) el28 ?_
 intro b1 w1 G1 F1 hc1
 replace F0_0 := F0_0.c hc1
 replace F0_1 := F0_1.c hc1
 replace F0 := F0.c hc1
 replace hB := hB.q hc1
 replace G1 := Nat.le_trans hZ G1
 replace G1 := low1 G1
 replace hZ := hc1.z hZ
 replace G1 := lowApp G1 lowNil
 refine wP 1 [(3, .slice (some ⟨b1, 0, none⟩) (([] : List (List Int))).length 0)] <| wN <| cW_seq <| sR <| wP 1 [(9, pt b0)] ?_
 obtain ⟨y1, hy1, hm⟩ := bindE hm
 refine sC 10 [pt b0] ent39 (c_impl_Channel_nets_bimplChannel hy1 F0_0 F0_1 F0) ?_
 rintro _ w2 ⟨A1, cap1, fp1, rfl, F2, G2, hc2⟩
 have D1 : Dj ([b1] ++ []) fp1 := Dj.of F1.low G2
 replace F0_0 := F0_0.c hc2
 replace F0_1 := F0_1.c hc2
 replace F0 := F0.c hc2
 replace F1 := F1.c hc2
 replace hB := hB.q hc2
 replace G2 := low_le hZ G2
 replace hZ := hc2.z hZ
 refine ⟨.slice A1 y1.length cap1, rfl, ?_⟩
 refine wP 2 [(12, ii 0), (11, ii (y1.length : Int))] <| wN ?_
 obtain ⟨r1, hr1, hm⟩ := bindE hm
 have hm1 := hm
 refine cW_cut (fun a' w' => ∃ l1 : List (List Int), ∃ A3 : Option Addr, ∃ cap3 : Nat, ∃ fp2 : List Nat, ∃ fr1 : List Nat, l1 = r1 ∧ Fr 41 [(3, .slice A3 l1.length cap3)] a' ∧ OwR 1 encI 24 2 w' fp2 fr1 A3 cap3 l1 ∧ (∀ x ∈ (fp2 ++ fr1), w0.heap.size ≤ x) ∧ Chg [] w0 w' ∧ w0.heap.size ≤ w'.heap.size) ?_ ?_
 ·refine cW_block ?_
  refine cW_loop _ (fun (s1 : (List (List Int)) × Int) a' w' => ∃ l2 : List (List Int), ∃ A4 : Option Addr, ∃ cap4 : Nat, ∃ fp3 : List Nat, ∃ fr2 : List Nat, ∃ x1 : Int, (l2, x1) = s1 ∧ Fr 41 [(0, pt b0), (3, .slice A4 l2.length cap4), (10, .slice A1 y1.length cap1), (11, ii (y1.length : Int)), (12, ii x1)] a' ∧ Sl 1 encI w' fp0_0 A0_0 l0_0 ∧ Sl 1 encI w' fp0_1 A0_1 l0_1 ∧ Cl w' b0 26 [.slice A0_0 l0_0.length cap0_0, .slice A0_1 l0_1.length cap0_1] ∧ Ow 1 encI 2 w' fp1 A1 cap1 y1 ∧ OwR 1 encI 24 2 w' fp3 fr2 A4 cap4 l2 ∧ (∀ x ∈ (fp3 ++ fr2), w0.heap.size ≤ x) ∧ Dj fp1 (fp3 ++ fr2) ∧ Chg [] w0 w' ∧ w0.heap.size ≤ w'.heap.size) hr1 (fun hst => ⟨([] : List (List Int)), (some ⟨b1, 0, none⟩), 0, [b1], [], 0, rfl, fO hst, F0_0, F0_1, F0, F2, F1, G1, (D1).symm, hB, hZ⟩) ?_
  rintro _ c1 a' w3 ⟨l2, A4, cap4, fp3, fr2, x1, rfl, hF1, F3, F4, F5, F6, F7, G3, D2, hB, hZ⟩ hx1
  refine gO hF1 ?_
  have hm := hx1
  unfold m_impl_Channel_pieces_bimplChannel_s3 at hm
  refine sR <| wP 1 [(13, .bool (decide (x1 < ((y1.length : Int)))))] <| wN <| cW_seq <| cC (decide (x1 < ((y1.length : Int)))) (fun hb1 => ?_) (fun hb1 => ?_)
  ·have hm := condT hb1 hm
   refine cW_skip <| eX_then <| cW_seq <| cW_block <| sR ?_
   obtain ⟨x2, hx2, hm⟩ := bindE hm
   refine sI 14 A1 y1.length cap1 .i64 x1 sl24 ((F6.sl encI_ok).is hx2) <| sL 15 (elA A1 1 (x1) 0) (ii x2) vt2 (Sl.cell (F6.sl encI_ok) hx2 0 (by rfl)) <| wP 1 [(5, ii x2)] <| wN <| sR <| wP 2 [(17, ii x2), (16, pt b0)] ?_
   obtain ⟨y2, hy2, hm⟩ := bindE hm
   refine sC 18 [pt b0, ii x2] ent73 (c_impl_Channel_columns_bimplChannel hy2 F3 F4 F5) ?_
   rintro _ w4 ⟨A5, cap5, fp4, rfl, F8, G4, hc3⟩
   have D3 : Dj fp1 fp4 := Dj.of F6.low G4
   have D4 : Dj (fp3 ++ fr2) fp4 := Dj.of F7.low G4
   replace F3 := F3.c hc3
   replace F4 := F4.c hc3
   replace F5 := F5.c hc3
   replace F6 := F6.c hc3
   replace F7 := F7.c hc3
   replace hB := hB.q hc3
   replace G4 := low_le hZ G4
   replace hZ := hc3.z hZ
   refine ⟨.slice A5 y2.length cap5, rfl, ?_⟩
   refine wP 1 [(6, .slice A5 y2.length cap5)] <| wN <| sR <| wP 1 [(7, ii 1)] <| wN ?_
   obtain ⟨r2, hr2, hm⟩ := bindE hm
   have hm2 := hm
   refine cW_cut (fun a' w' => ∃ l3 : List (List Int), ∃ A6 : Option Addr, ∃ cap6 : Nat, ∃ fp5 : List Nat, ∃ fr3 : List Nat, l3 = r2 ∧ Fr 41 [(0, pt b0), (3, .slice A6 l3.length cap6), (10, .slice A1 y1.length cap1), (11, ii (y1.length : Int)), (12, ii x1)] a' ∧ Sl 1 encI w' fp0_0 A0_0 l0_0 ∧ Sl 1 encI w' fp0_1 A0_1 l0_1 ∧ Cl w' b0 26 [.slice A0_0 l0_0.length cap0_0, .slice A0_1 l0_1.length cap0_1] ∧ Ow 1 encI 2 w' fp1 A1 cap1 y1 ∧ OwR 1 encI 24 2 w' fp5 fr3 A6 cap6 l3 ∧ (∀ x ∈ (fp5 ++ fr3), w0.heap.size ≤ x) ∧ Dj fp1 (fp5 ++ fr3) ∧ Chg [] w0 w' ∧ w0.heap.size ≤ w'.heap.size) ?_ ?_
   ·refine cW_block ?_
    refine cW_loop _ (fun (s2 : (List (List Int)) × Int) a' w' => ∃ l4 : List (List Int), ∃ A7 : Option Addr, ∃ cap7 : Nat, ∃ fp6 : List Nat, ∃ fr4 : List Nat, ∃ x3 : Int, (l4, x3) = s2 ∧ Fr 41 [(0, pt b0), (3, .slice A7 l4.length cap7), (5, ii x2), (6, .slice A5 y2.length cap5), (7, ii x3), (10, .slice A1 y1.length cap1), (11, ii (y1.length : Int)), (12, ii x1)] a' ∧ Sl 1 encI w' fp0_0 A0_0 l0_0 ∧ Sl 1 encI w' fp0_1 A0_1 l0_1 ∧ Cl w' b0 26 [.slice A0_0 l0_0.length cap0_0, .slice A0_1 l0_1.length cap0_1] ∧ Ow 1 encI 2 w' fp1 A1 cap1 y1 ∧ Ow 1 encI 2 w' fp4 A5 cap5 y2 ∧ OwR 1 encI 24 2 w' fp6 fr4 A7 cap7 l4 ∧ (∀ x ∈ (fp6 ++ fr4), w0.heap.size ≤ x) ∧ Dj fp1 (fp6 ++ fr4) ∧ Dj fp4 (fp6 ++ fr4) ∧ Chg [] w0 w' ∧ w0.heap.size ≤ w'.heap.size) hr2 (fun hst => ⟨l2, A4, cap4, fp3, fr2, 1, rfl, fO hst, F3, F4, F5, F6, F8, F7, G3, D2, (D4).symm, hB, hZ⟩) ?_
    rintro _ c2 a' w5 ⟨l4, A7, cap7, fp6, fr4, x3, rfl, hF2, F9, F10, F11, F12, F13, F14, G5, D5, D6, hB, hZ⟩ hx3
    refine gO hF2 ?_
    have hm := hx3
    unfold m_impl_Channel_pieces_bimplChannel_s4 at hm
    refine cW_seq <| sR <| wP 4 [(22, .bool (decide (x3 < ((y2.length : Int))))), (21, ii (y2.length : Int)), (20, .slice A5 y2.length cap5), (19, ii x3)] <| wN <| cC (decide (x3 < ((y2.length : Int)))) (fun hb2 => ?_) (fun hb2 => ?_)
    ·have hm := condT hb2 hm
     refine cW_skip <| eX_then <| cW_seq <| cW_block <| cW_drawnTail [] 13 (by kernel_rfl) (by kernel_rfl) (fun w6 hc4 => ?_)
     replace F9 := F9.c hc4
     replace F10 := F10.c hc4
     replace F11 := F11.c hc4
     replace F12 := F12.c hc4
     replace F13 := F13.c hc4
     replace F14 := F14.c hc4
     replace hB := hB.q hc4
     replace hZ := hc4.z hZ
     have hS := Chg.refl [] w6
     have Z1 := F9
     have Z2 := F10
     have Z3 := F11
     have Z4 := F12
     have Z5 := F13
     have Z6 := F14
     refine hT [0, 1, 2, 3, 4] [(29, ii (wr (x3 - 1))), (28, ii x3), (27, .slice A5 y2.length cap5), (26, ii x2), (25, .slice A7 l4.length cap7)] ?_
     obtain ⟨x4, hx4, hm⟩ := bindE hm
     refine hI 5 30 A5 y2.length cap5 .i64 (wr (x3 - 1)) sl24 ((F13.sl encI_ok).is hx4) <| hL 6 31 (elA A5 1 (wr (x3 - 1)) 0) (ii x4) vt2 (fun W hW => Sl.cell ((Z5.c hW).sl encI_ok) hx4 0 (by rfl)) ?_
     refine hT [7, 8] [(33, ii x3), (32, .slice A5 y2.length cap5)] ?_
     obtain ⟨x5, hx5, hm⟩ := bindE hm
     refine hI 9 34 A5 y2.length cap5 .i64 x3 sl24 ((F13.sl encI_ok).is hx5) <| hL 10 35 (elA A5 1 (x3) 0) (ii x5) vt2 (fun W hW => Sl.cell ((Z5.c hW).sl encI_ok) hx5 0 (by rfl)) ?_
     refine wH_all [11] (by rfl) (by kernel_rfl) (by simp) ⟨⟨by kernel_rfl, ?_⟩, trivial⟩
     refine wS_bs (enc := encI) ([x2, x4, x5] : List Int) [ii x2, ii x4, ii x5] (d := 36) (t := 24) (T := 2) (n := 3) (ps := [(0, ii x2), (1, ii x4), (2, ii x5)]) (by kernel_rfl) el24 encI_ok (by rfl) (by omega) (by omega) (by kernel_rfl) (by rfl) ?_
     intro b2 w7 G6 F15 hc5
     have D7 : Dj fp1 [b2] := Dj.of F12.low (low1 G6)
     have D8 : Dj fp4 [b2] := Dj.of F13.low (low1 G6)
     have D9 : Dj (fp6 ++ fr4) [b2] := Dj.of F14.low (low1 G6)
     replace F9 := F9.c hc5
     replace F10 := F10.c hc5
     replace F11 := F11.c hc5
     replace F12 := F12.c hc5
     replace F13 := F13.c hc5
     replace F14 := F14.c hc5
     replace hB := hB.q hc5
     have hSz := hS
     replace hS := hS.inS hc5 inNil
     have Gz1 := low1 (Nat.le_trans hSz.size G6)
     replace G6 := Nat.le_trans hZ G6
     replace G6 := low1 G6
     replace hZ := hc5.z hZ
     refine wS_end (by kernel_rfl) <| eX_KH hS ?_
     refine wH_all [12] (by rfl) (by kernel_rfl) (by simp) ⟨⟨by kernel_rfl, ?_⟩, trivial⟩
     refine wS_row1 (k := 1) (enc := encI) (l := ([x2, x4, x5] : List Int)) (d := 37) (t := 28) (T := 24) (B := (some ⟨b2, 0, none⟩)) (c := 3) (by kernel_rfl) el28 F15 ?_
     intro b3 w8 G7 F16 hc6
     have D10 : Dj fp1 ([b3] ++ [b2]) := Dj.app (Dj.of F12.low (low1 G7)) D7
     have D11 : Dj fp4 ([b3] ++ [b2]) := Dj.app (Dj.of F13.low (low1 G7)) D8
     have D12 : Dj (fp6 ++ fr4) ([b3] ++ [b2]) := Dj.app (Dj.of F14.low (low1 G7)) D9
     replace F9 := F9.c hc6
     replace F10 := F10.c hc6
     replace F11 := F11.c hc6
     replace F12 := F12.c hc6
     replace F13 := F13.c hc6
     replace F14 := F14.c hc6
     replace F15 := F15.c hc6
     replace hB := hB.q hc6
     have hSz := hS
     replace hS := hS.inS hc6 inNil
     replace G7 := Nat.le_trans hZ G7
     replace G7 := lowApp (low1 G7) G6
     replace hZ := hc6.z hZ
     replace F15 := (F15.sl encI_ok)
     refine wS_end (by kernel_rfl) <| eX_KH hS <| wD <| eX_tail ?_
     obtain ⟨_, hk1, hm⟩ := bindE hm
     replace hk1 := apE hk1
     refine wS_appendR (k := 1) (enc := encI) (ll := (l4 : List (List Int))) (ll2 := (([([x2, x4, x5] : List Int)] : List (List Int)) : List (List Int))) (d := 38) (t := 28) (T := 24) (A := A7) (A2 := (some ⟨b3, 0, none⟩)) (cap := cap7) (cap2 := 1) (by kernel_rfl) el28 F14 F16 (by rfl) D12 hk1 ?_
     intro w9 fp7 A8 cap8 F17 hc7 hp1
     have G8 := lowApp (low_ap (low_inl G5) hZ hp1) (lowApp (low_inr G5) (low_inr G7))
     have D13 : Dj fp1 (fp7 ++ (fr4 ++ [b2])) := Dj.app (Dj.ap (Dj.inl D5) F12.low hp1) (Dj.app (Dj.inr D5) (Dj.inr D10))
     have D14 : Dj fp4 (fp7 ++ (fr4 ++ [b2])) := Dj.app (Dj.ap (Dj.inl D6) F13.low hp1) (Dj.app (Dj.inr D6) (Dj.inr D11))
     replace F9 := F9.chg hc7 (Dj.inl (Dj.of L0_0 G5))
     replace F10 := F10.chg hc7 (Dj.inl (Dj.of L0_1 G5))
     replace F11 := F11.chg hc7 (dj1 (Dj.inl (Dj.of L0 G5)))
     replace F12 := F12.chg hc7 (Dj.inl D5)
     replace F13 := F13.chg hc7 (Dj.inl D6)
     replace hB := hB.inS hc7 (memS_inl (inLow G5))
     replace hZ := hc7.z hZ
     refine wP 1 [(3, .slice A8 (l4 ++ (([([x2, x4, x5] : List Int)] : List (List Int)))).length cap8)] <| wE <| eX_block <| eX_then <| cP [(0, pt b0), (3, .slice A8 (l4 ++ (([([x2, x4, x5] : List Int)] : List (List Int)))).length cap8), (5, ii x2), (6, .slice A5 y2.length cap5), (7, ii x3), (10, .slice A1 y1.length cap1), (11, ii (y1.length : Int)), (12, ii x1)] (fun a1 => ?_)
     refine cW_region <| wP 3 [(7, ii (wr (x3 + 1))), (24, ii (wr (x3 + 1))), (23, ii x3)] <| wE ?_
     obtain rfl := someE (x := (Ctl.next ((l4 ++ (([([x2, x4, x5] : List Int)] : List (List Int))), wr (x3 + 1))))) hm
     exact eX_next hx3 (fun hst => ⟨l4 ++ (([([x2, x4, x5] : List Int)] : List (List Int))), A8, cap8, fp7, (fr4 ++ [b2]), wr (x3 + 1), rfl, fO hst, F9, F10, F11, F12, F13, F17, G8, D13, D14, hB, hZ⟩)
    have hm := condF hb2 hm
    refine cW_exit <| eX_then_exit ?_
    obtain rfl := someE (x := Ctl.out l4) hm
    refine eX_outX hx3 (fun hr3 => ?_)
    replace hr3 := hr3.symm
    subst hr3
    refine eX_block_hit ?_
    exact eX_J (fun hst => ⟨l4, A7, cap7, fp6, fr4, rfl, fO hst, F9, F10, F11, F12, F14, G5, D5, hB, hZ⟩)
   rintro a' w10 ⟨l3, A6, cap6, fp5, fr3, hJ, hF3, F18, F19, F20, F21, F22, G9, D15, hB, hZ⟩
   subst hJ
   refine gX hF3 <| eX_block <| eX_then <| cW_region <| wP 2 [(12, ii (wr (x1 + 1))), (39, ii (wr (x1 + 1)))] <| wE ?_
   obtain rfl := someE (x := (Ctl.next ((l3, wr (x1 + 1))))) hm
   exact eX_next hx1 (fun hst => ⟨l3, A6, cap6, fp5, fr3, wr (x1 + 1), rfl, fO hst, F18, F19, F20, F21, F22, G9, D15, hB, hZ⟩)
  have hm := condF hb1 hm
  refine cW_exit <| eX_then_exit ?_
  obtain rfl := someE (x := Ctl.out l2) hm
  refine eX_outX hx1 (fun hr4 => ?_)
  replace hr4 := hr4.symm
  subst hr4
  refine eX_block_hit ?_
  exact eX_J (fun hst => ⟨l2, A4, cap4, fp3, fr2, rfl, fO hst, F7, G3, hB, hZ⟩)
 rintro a' w11 ⟨l1, A3, cap3, fp2, fr1, hJ, hF4, F23, G10, hB, hZ⟩
 subst hJ
 refine gX hF4 <| eX_then <| sR <| wP 2 [(2, .slice A3 l1.length cap3), (40, .slice A3 l1.length cap3)] <| wN <| cW_ret ?_
 obtain rfl := someE (x := l1) hm
 refine rA (.slice A3 l1.length cap3) 2 ?_
 exact ⟨A3, cap3, fp2, fr1, rfl, F23, G10, hB⟩

end Go.Proofs.YtbfjekmefcpkmaaDoor
