/- Printed walks: math/bits.Mul, slices.Repeat[[]int,int], (impl.graph).back, (impl.graph).oddRing$1, (impl.graph).oddRing, impl.OddRing, impl.CountBest, spec.l00In, spec.l03Less, spec.l07Lists, spec.l07Is, spec.l07Layering. -/
import Derived.Test.YtngnljnfbfgfeaaProg
import Derived.Test.YtngnljnfbfgfeaaWLy02
set_option linter.unusedSimpArgs false
set_option linter.unusedVariables false
namespace Go.Proofs.Ytngnljnfbfgfeaa
open Go.RowKit
attribute [local irreducible] wS cW eX wH

theorem ent56 : Ent Try.prog 56 := fun _ => by kernel_rfl
theorem ent87 : Ent Try.prog 87 := fun _ => by kernel_rfl
theorem ent96 : Ent Try.prog 96 := fun _ => by kernel_rfl
theorem ent97 : Ent Try.prog 97 := fun _ => by kernel_rfl
theorem ent98 : Ent Try.prog 98 := fun _ => by kernel_rfl
theorem ent99 : Ent Try.prog 99 := fun _ => by kernel_rfl
theorem ent103 : Ent Try.prog 103 := fun _ => by kernel_rfl
theorem ent125 : Ent Try.prog 125 := fun _ => by kernel_rfl
theorem ent128 : Ent Try.prog 128 := fun _ => by kernel_rfl
theorem ent146 : Ent Try.prog 146 := fun _ => by kernel_rfl
theorem ent158 : Ent Try.prog 158 := fun _ => by kernel_rfl
theorem vt127 : VarTy Try.prog 127 1 false := ⟨by kernel_rfl, by kernel_rfl⟩
theorem sz127 : pureRun Try.prog (sizeOf 127) = some 1 := by kernel_rfl

set_option maxRecDepth 100000 in
/-- bits.Mul -/
theorem c_math_bits_Mul {w0 : World} {p0 : Int} {p1 : Int} {r : (Int) × (Int)} (hm : m_math_bits_Mul p0 p1 = some r)  :
  Calls Try.prog 146 #[.int .u64 (p0), .int .u64 (p1)] w0 fun e w' => e = .returned (.tuple #[.int .u64 (r.1), .int .u64 (r.2)]) ∧ Chg [] w0 w' := by
 have hB : Chg [] w0 w0 := Chg.refl _ _
 have hZ := Nat.le_refl w0.heap.size
 unfold m_math_bits_Mul at hm
 refine enterE (N := 30) Try.func146 (by rfl) Try.ntmps146 (by simp) [(0, .int .u64 (p0)), (1, .int .u64 (p1))] (by rfl) (by kernel_rfl) (fun a => ?_)
 refine cW_seq ?_
 refine cW_region ?_
 refine wS_pure 2 [(5, .int .u64 (0)), (4, .int .u64 (0))] (by kernel_rfl) ?_
 refine wS_end (by rfl) ?_
 refine eX_then ?_
 refine cW_seq ?_
 refine cW_cond_f (by kernel_rfl) ?_
 refine cW_skip ?_
 refine eX_then ?_
 refine cW_seq ?_
 refine cW_region ?_
 refine wS_pure 2 [(24, .int .u64 (p1)), (23, .int .u64 (p0))] (by kernel_rfl) ?_
 obtain ⟨y1, hy1, hm⟩ := bindE hm
 refine wS_calls (d := 25) (f := 158) (vs := [.int .u64 (p0), .int .u64 (p1)]) (by kernel_rfl) ent158 (c_math_bits_Mul64 hy1) ?_
 rintro _ w1 ⟨rfl, hc1⟩
 replace hB := hB.inS hc1 inNil
 replace hZ := Nat.le_trans hZ hc1.size
 refine ⟨.tuple #[.int .u64 (y1.1), .int .u64 (y1.2)], rfl, ?_⟩
 refine wS_pure 5 [(9, .int .u64 (y1.2)), (8, .int .u64 (y1.1)), (27, .int .u64 (y1.2)), (26, .int .u64 (y1.1)), (22, .tuple #[.int .u64 (y1.1), .int .u64 (y1.2)])] (by kernel_rfl) ?_
 refine wS_end (by rfl) ?_
 refine eX_then ?_
 refine cW_seq ?_
 refine cW_region ?_
 refine wS_pure 4 [(5, .int .u64 (y1.2)), (4, .int .u64 (y1.1)), (29, .int .u64 (y1.2)), (28, .int .u64 (y1.1))] (by kernel_rfl) ?_
 refine wS_end (by rfl) ?_
 refine eX_then ?_
 refine cW_ret ?_
 have hq : (some ((y1.1, y1.2)) : Option ((Int) × (Int))) = some _ := hm
 replace hq := someE hq
 subst hq
 refine eX_ret (vs := [.int .u64 (y1.1), .int .u64 (y1.2)]) [.tmp 4, .tmp 5] (by rfl) ⟨by (show lkE _ _ _ = _); kernel_rfl, ⟨by (show lkE _ _ _ = _); kernel_rfl, trivial⟩⟩ ?_
 exact ⟨rfl, hB⟩

set_option maxRecDepth 100000 in
/-- slices.Repeat[[]int,int] -/
theorem c_slices_Repeat_int_int {w0 : World} {l0 : List (Int)} {A0 : Option Addr} {cap0 : Nat} {fp0 : List Nat} {p1 : Int} {r : (List (Int))} (hm : m_slices_Repeat_int_int l0 p1 = some r) (F0 : Sl 1 encI w0 fp0 A0 l0) :
  Calls Try.prog 125 #[.slice A0 (l0).length cap0, .int .i64 (p1)] w0 fun e w' => ∃ A1 cap100 fp100, e = .returned (.slice A1 (r).length cap100) ∧ Ow 1 encI 3 w' fp100 A1 cap100 r ∧ (∀ x ∈ fp100, w0.heap.size ≤ x) ∧ Chg [] w0 w' := by
 have L0 := F0.low
 have hB : Chg [] w0 w0 := Chg.refl _ _
 have hZ := Nat.le_refl w0.heap.size
 unfold m_slices_Repeat_int_int at hm
 refine enterE (N := 48) Try.func125 (by rfl) Try.ntmps125 (by simp) [(0, .slice A0 (l0).length cap0), (1, .int .i64 (p1))] (by rfl) (by kernel_rfl) (fun a => ?_)
 refine cW_seq ?_
 refine cW_region ?_
 refine wS_pure 1 [(4, .slice none 0 0)] (by kernel_rfl) ?_
 refine wS_end (by rfl) ?_
 refine eX_then ?_
 refine cW_seq ?_
 obtain ⟨s1, hs1, hm⟩ := bindE hm
 refine cW_cut (fun a' w' => () = s1 ∧ Fr 48 [(0, .slice A0 (l0).length cap0), (1, .int .i64 (p1))] a' ∧ Sl 1 encI w' fp0 A0 l0 ∧ Chg [] w0 w' ∧ w0.heap.size ≤ w'.heap.size) ?_ ?_
 ·have hm := hs1
  refine cW_seq ?_
  refine cW_region ?_
  refine wS_pure 2 [(10, .bool (decide (p1 < 0))), (9, .int .i64 (p1))] (by kernel_rfl) ?_
  refine wS_end (by rfl) ?_
  refine eX_then ?_
  refine cW_cond (t := decide (p1 < 0)) (by kernel_rfl) (fun hb1 => ?_) (fun hb1 => ?_)
  ·have hm := condT hb1 hm
   refine cW_region ?_
   exact noneE hm
  ·have hm := condF hb1 hm
   refine cW_skip ?_
   have hq : (some (()) : Option (Unit)) = some _ := hm
   replace hq := someE hq
   subst hq
   exact eX_J (fun hst => ⟨rfl, Fr.of hst (by kernel_rfl), F0, hB, hZ⟩)
 ·rintro a' w1 ⟨hJ, hF1, F1, hB, hZ⟩
  subst hJ
  refine Fr.goX hF1 (by kernel_rfl) ?_
  refine eX_then ?_
  refine cW_seq ?_
  refine cW_region ?_
  refine wS_pure 5 [(17, .int .u64 (wu p1)), (16, .int .i64 (p1)), (15, .int .u64 (wu (((l0).length : Int)))), (14, .int .i64 (((l0).length : Int))), (13, .slice A0 (l0).length cap0)] (by kernel_rfl) ?_
  obtain ⟨y1, hy1, hm⟩ := bindE hm
  refine wS_calls (d := 18) (f := 146) (vs := [.int .u64 (wu (((l0).length : Int))), .int .u64 (wu p1)]) (by kernel_rfl) ent146 (c_math_bits_Mul hy1) ?_
  rintro _ w2 ⟨rfl, hc1⟩
  replace F1 := F1.chg hc1 Dj.nil
  replace hB := hB.inS hc1 inNil
  replace hZ := Nat.le_trans hZ hc1.size
  refine ⟨.tuple #[.int .u64 (y1.1), .int .u64 (y1.2)], rfl, ?_⟩
  refine wS_pure 5 [(6, .int .u64 (y1.2)), (5, .int .u64 (y1.1)), (20, .int .u64 (y1.2)), (19, .int .u64 (y1.1)), (12, .tuple #[.int .u64 (y1.1), .int .u64 (y1.2)])] (by kernel_rfl) ?_
  refine wS_end (by rfl) ?_
  refine eX_then ?_
  refine cW_seq ?_
  obtain ⟨s2, hs2, hm⟩ := bindE hm
  refine cW_cut (fun a' w' => () = s2 ∧ Fr 48 [(0, .slice A0 (l0).length cap0), (6, .int .u64 (y1.2))] a' ∧ Sl 1 encI w' fp0 A0 l0 ∧ Chg [] w0 w' ∧ w0.heap.size ≤ w'.heap.size) ?_ ?_
  ·have hm := hs2
   refine cW_seq ?_
   refine cW_region ?_
   refine wS_pure 3 [(23, .bool (decide (y1.1 > 0))), (22, .bool (decide (y1.1 > 0))), (21, .int .u64 (y1.1))] (by kernel_rfl) ?_
   refine wS_bool (decide (y1.1 > 0)) (fun hb2 => ?_) (fun hb2 => ?_)
   ·have hm := condT hb2 hm
    rewrite [hb2]
    refine wS_pure 3 [(26, .bool (true)), (25, undef), (24, undef)] (by kernel_rfl) ?_
    refine wS_end (by rfl) ?_
    refine eX_then ?_
    refine cW_cond_t (by kernel_rfl) ?_
    refine cW_region ?_
    exact noneE hm
   ·have hm := condF hb2 hm
    rewrite [hb2]
    refine wS_pure 3 [(26, .bool (decide (y1.2 > 9223372036854775807))), (25, .bool (decide (y1.2 > 9223372036854775807))), (24, .int .u64 (y1.2))] (by kernel_rfl) ?_
    refine wS_end (by rfl) ?_
    refine eX_then ?_
    refine cW_cond (t := decide (y1.2 > 9223372036854775807)) (by kernel_rfl) (fun hb3 => ?_) (fun hb3 => ?_)
    ·have hm := condT hb3 hm
     refine cW_region ?_
     exact noneE hm
    ·have hm := condF hb3 hm
     refine cW_skip ?_
     have hq : (some (()) : Option (Unit)) = some _ := hm
     replace hq := someE hq
     subst hq
     exact eX_J (fun hst => ⟨rfl, Fr.of hst (by kernel_rfl), F1, hB, hZ⟩)
  ·rintro a' w3 ⟨hJ, hF2, F2, hB, hZ⟩
   subst hJ
   refine Fr.goX hF2 (by kernel_rfl) ?_
   refine eX_then ?_
   refine cW_seq ?_
   refine cW_region ?_
   refine wS_pure 2 [(29, .int .i64 (wr y1.2)), (28, .int .u64 (y1.2))] (by kernel_rfl) ?_
   obtain ⟨_, hk1, hm⟩ := bindE hm
   replace hk1 := mkE hk1
   refine wS_make (enc := encI) (x0 := (0 : Int)) (d := 30) (t := 75) (T := 3) (k1 := .i64) (k2 := .i64) (m := wr y1.2) (by kernel_rfl) el75 encI_ok (by rfl) hk1.1 hk1.2 ?_
   intro b1 w4 G1 F3 hc2
   replace F2 := F2.chg hc2 Dj.nil
   replace hB := hB.inS hc2 inNil
   replace G1 := Nat.le_trans hZ G1
   replace G1 := low1 G1
   replace hZ := Nat.le_trans hZ hc2.size
   refine wS_pure 1 [(7, .slice (some ⟨b1, 0, none⟩) (List.replicate (Int.toNat (wr y1.2)) ((0 : Int))).length (Int.toNat (wr y1.2)))] (by kernel_rfl) ?_
   refine wS_end (by rfl) ?_
   refine eX_then ?_
   refine cW_seq ?_
   refine cW_region ?_
   refine wS_pure 2 [(32, .slice A0 (l0).length cap0), (31, .slice (some ⟨b1, 0, none⟩) (List.replicate (Int.toNat (wr y1.2)) ((0 : Int))).length (Int.toNat (wr y1.2)))] (by kernel_rfl) ?_
   refine wS_copy (k := 1) (enc := encI) (l := List.replicate (Int.toNat (wr y1.2)) ((0 : Int))) (l2 := l0) (lo := 0) (d := 33) (t := 75) (T := 3) (A := (some ⟨b1, 0, none⟩)) (A' := (some ⟨b1, 0, none⟩)) (A2 := A0) (cap := (Int.toNat (wr y1.2))) (c' := (Int.toNat (wr y1.2))) (c2 := cap0) (by kernel_rfl) (Nat.sub_zero _).symm el75 encI_ok F3 (hA0 _ _ _) (Nat.zero_le _) F2 ?_
   intro w5 F4 hlc1 hc3
   replace F2 := F2.chg hc3 (Dj.of L0 G1)
   replace hB := hB.inS hc3 (inLow G1)
   replace hZ := Nat.le_trans hZ hc3.size
   clear F3
   rewrite [show (List.replicate (Int.toNat (wr y1.2)) ((0 : Int))).length = (cpy (List.replicate (Int.toNat (wr y1.2)) ((0 : Int))) 0 l0).length from hlc1.symm]
   refine wS_pure 1 [(8, .int .i64 (((min (l0).length ((cpy (List.replicate (Int.toNat (wr y1.2)) ((0 : Int))) 0 l0).length - Int.toNat 0) : Nat) : Int)))] (by kernel_rfl) ?_
   refine wS_end (by rfl) ?_
   refine eX_then ?_
   refine cW_seq ?_
   obtain ⟨r1, hr1, hm⟩ := bindE hm
   have hm1 := hm
   refine cW_cut (fun a' w' => ∃ l1 : List (Int), l1 = r1 ∧ Fr 48 [(7, .slice (some ⟨b1, 0, none⟩) (l1).length (Int.toNat (wr y1.2)))] a' ∧ Ow 1 encI 3 w' [b1] (some ⟨b1, 0, none⟩) (Int.toNat (wr y1.2)) l1 ∧ Chg [] w0 w' ∧ w0.heap.size ≤ w'.heap.size) ?_ ?_
   ·refine cW_block ?_
    refine cW_loop _ (fun (s3 : Int × (List (Int))) a' w' => ∃ x1 : Int, ∃ l3 : List (Int), (x1, l3) = s3 ∧ Fr 48 [(7, .slice (some ⟨b1, 0, none⟩) (l3).length (Int.toNat (wr y1.2))), (8, .int .i64 (x1))] a' ∧ Ow 1 encI 3 w' [b1] (some ⟨b1, 0, none⟩) (Int.toNat (wr y1.2)) l3 ∧ Chg [] w0 w' ∧ w0.heap.size ≤ w'.heap.size) hr1 (fun hst => ⟨((min (l0).length ((cpy (List.replicate (Int.toNat (wr y1.2)) ((0 : Int))) 0 l0).length - Int.toNat 0) : Nat) : Int), cpy (List.replicate (Int.toNat (wr y1.2)) ((0 : Int))) 0 l0, rfl, Fr.of hst (by kernel_rfl), F4, hB, hZ⟩) ?_
    rintro _ c1 a' w6 ⟨x1, l3, rfl, hF3, F5, hB, hZ⟩ hx1
    refine Fr.goOn hF3 (by kernel_rfl) ?_
    have hm := hx1
    unfold m_slices_Repeat_int_int_s1 at hm
    refine cW_seq ?_
    refine cW_seq ?_
    refine cW_region ?_
    refine wS_pure 4 [(37, .bool (decide (x1 < (((l3).length : Int))))), (36, .int .i64 (((l3).length : Int))), (35, .slice (some ⟨b1, 0, none⟩) (l3).length (Int.toNat (wr y1.2))), (34, .int .i64 (x1))] (by kernel_rfl) ?_
    refine wS_end (by rfl) ?_
    refine eX_then ?_
    refine cW_cond (t := decide (x1 < (((l3).length : Int)))) (by kernel_rfl) (fun hb4 => ?_) (fun hb4 => ?_)
    ·have hm := condT hb4 hm
     refine cW_skip ?_
     refine eX_then ?_
     refine cW_block ?_
     refine cW_drawnTail [b1] 8 (by kernel_rfl) (by kernel_rfl) (fun w7 hc4 => ?_)
     replace F5 := F5.chg hc4 Dj.nil
     replace hB := hB.inS hc4 inNil
     replace hZ := Nat.le_trans hZ hc4.size
     have hS := Chg.refl [b1] w7
     have Z1 := F5
     refine wH_take [0, 1, 2] [2, 1, 0] [(40, .int .i64 (x1)), (39, .slice (some ⟨b1, 0, none⟩) (l3).length (Int.toNat (wr y1.2))), (38, .int .i64 (x1))] (by kernel_rfl) (qT (qB (qL (qB (qT (qT qZ)))))) (by kernel_rfl) ?_
     obtain ⟨y2, hy2, hm⟩ := bindE hm
     refine wH_cutA (k := 1) (enc := encI) (fp := [b1]) (l := l3) (i := 3) (d := 41) (T := 75) (A := (some ⟨b1, 0, none⟩)) (cap := (Int.toNat (wr y1.2))) (vlo := some (.int .i64 (x1))) (vhi := none) (lo := x1) (hi := ((l3).length : Int)) (n := 0) (by kernel_rfl) (qT (qB (qL (qB (qT (qT qZ)))))) (by kernel_rfl) (by kernel_rfl) sl75 (Or.inl rfl) (Or.inr ⟨rfl, rfl⟩) F5.cap_le hy2 ?_
     intro A3 cap1 hA1 hcut1 hcap1
     have F6 := hcut1 _ (F5.sl encI_ok)
     have Fz1 := hcut1 _ (Z1.sl encI_ok)
     refine wH_take [4, 5] [5, 4, 3, 2, 1, 0] [(43, .int .i64 (x1)), (42, .slice (some ⟨b1, 0, none⟩) (l3).length (Int.toNat (wr y1.2)))] (by kernel_rfl) (qT (qB (qL (qB (qT (qT qZ)))))) (by kernel_rfl) ?_
     obtain ⟨y3, hy3, hm⟩ := bindE hm
     refine wH_cutA (k := 1) (enc := encI) (fp := [b1]) (l := l3) (i := 6) (d := 44) (T := 75) (A := (some ⟨b1, 0, none⟩)) (cap := (Int.toNat (wr y1.2))) (vlo := none) (vhi := some (.int .i64 (x1))) (lo := 0) (hi := x1) (n := 0) (by kernel_rfl) (qT (qB (qL (qB (qT (qT qZ)))))) (by kernel_rfl) (by kernel_rfl) sl75 (Or.inr ⟨rfl, rfl⟩) (Or.inl rfl) F5.cap_le hy3 ?_
     intro A4 cap2 hA2 hcut2 hcap2
     have F7 := hcut2 _ (F5.sl encI_ok)
     have Fz2 := hcut2 _ (Z1.sl encI_ok)
     refine wH_all [7] (by rfl) (by kernel_rfl) (by simp) ⟨⟨by kernel_rfl, ?_⟩, trivial⟩
     refine wS_copy (k := 1) (enc := encI) (l := l3) (l2 := y3) (lo := x1) (d := 45) (t := 75) (T := 3) (A := (some ⟨b1, 0, none⟩)) (A' := A3) (A2 := A4) (cap := (Int.toNat (wr y1.2))) (c' := cap1) (c2 := cap2) (by kernel_rfl) (slci_len_end hy2) el75 encI_ok F5 hA1 (slci_lo hy2) F7 ?_
     intro w8 F8 hlc2 hc5
     replace hB := hB.inS hc5 (inLow G1)
     have hSz := hS
     replace hS := hS.trans hc5
     replace hZ := Nat.le_trans hZ hc5.size
     clear F5
     rewrite [show (l3).length = (cpy l3 x1 y3).length from hlc2.symm]
     refine wS_end (by kernel_rfl) ?_
     refine eX_KH hS ?_
     refine wH_done (by kernel_rfl) ?_
     refine eX_tail ?_
     refine wS_pure 2 [(8, .int .i64 (wr (x1 + (((min (y3).length ((cpy l3 x1 y3).length - Int.toNat x1) : Nat) : Int))))), (46, .int .i64 (wr (x1 + (((min (y3).length ((cpy l3 x1 y3).length - Int.toNat x1) : Nat) : Int)))))] (by kernel_rfl) ?_
     refine wS_end (by rfl) ?_
     refine eX_block ?_
     have hq : (some (Ctl.next ((wr (x1 + (((min (y3).length ((cpy l3 x1 y3).length - Int.toNat x1) : Nat) : Int))), cpy l3 x1 y3))) : Option (Ctl (Int × (List (Int))) ((List (Int))))) = some _ := hm
     replace hq := someE hq
     subst hq
     exact eX_next hx1 (fun hst => ⟨wr (x1 + (((min (y3).length ((cpy l3 x1 y3).length - Int.toNat x1) : Nat) : Int))), cpy l3 x1 y3, rfl, Fr.of hst (by kernel_rfl), F8, hB, hZ⟩)
    ·have hm := condF hb4 hm
     refine cW_exit ?_
     refine eX_then_exit ?_
     have hq : (some (Ctl.out l3) : Option (Ctl (Int × (List (Int))) ((List (Int))))) = some _ := hm
     replace hq := someE hq
     subst hq
     refine eX_outX hx1 (fun hr2 => ?_)
     replace hr2 := hr2.symm
     subst hr2
     refine eX_block_hit ?_
     exact eX_J (fun hst => ⟨l3, rfl, Fr.of hst (by kernel_rfl), F5, hB, hZ⟩)
   ·rintro a' w9 ⟨l1, hJ, hF4, F9, hB, hZ⟩
    subst hJ
    refine Fr.goX hF4 (by kernel_rfl) ?_
    refine eX_then ?_
    refine cW_seq ?_
    refine cW_region ?_
    refine wS_pure 2 [(4, .slice (some ⟨b1, 0, none⟩) (l1).length (Int.toNat (wr y1.2))), (47, .slice (some ⟨b1, 0, none⟩) (l1).length (Int.toNat (wr y1.2)))] (by kernel_rfl) ?_
    refine wS_end (by rfl) ?_
    refine eX_then ?_
    refine cW_ret ?_
    have hq : (some l1 : Option ((List (Int)))) = some _ := hm
    replace hq := someE hq
    subst hq
    refine eX_ret (vs := [.slice (some ⟨b1, 0, none⟩) (l1).length (Int.toNat (wr y1.2))]) [.tmp 4] (by rfl) ⟨by (show lkE _ _ _ = _); kernel_rfl, trivial⟩ ?_
    exact ⟨(some ⟨b1, 0, none⟩), (Int.toNat (wr y1.2)), [b1], rfl, F9, G1, hB⟩

set_option maxRecDepth 100000 in
/-- impl.graph).back -/
theorem c_impl_graph_back {w0 : World} {l0 : List (List (Int))} {A0 : Option Addr} {cap0 : Nat} {fp0 : List Nat} {p1 : Int} {r : (List (Int))} (hm : m_impl_graph_back l0 p1 = some r) (F0 : SlR 1 encI w0 fp0 A0 l0) :
  Calls Try.prog 97 #[.slice A0 (l0).length cap0, .int .i64 (p1)] w0 fun e w' => ∃ A100 cap100 fp100, e = .returned (.slice A100 (r).length cap100) ∧ Ow 1 encI 3 w' fp100 A100 cap100 r ∧ (∀ x ∈ fp100, w0.heap.size ≤ x) ∧ Chg [] w0 w' := by
 have L0 := F0.low
 have hB : Chg [] w0 w0 := Chg.refl _ _
 have hZ := Nat.le_refl w0.heap.size
 unfold m_impl_graph_back at hm
 refine enterE (N := 58) Try.func97 (by rfl) Try.ntmps97 (by simp) [(0, .slice A0 (l0).length cap0), (1, .int .i64 (p1))] (by rfl) (by kernel_rfl) (fun a => ?_)
 refine cW_seq ?_
 refine cW_region ?_
 refine wS_pure 1 [(4, .slice none 0 0)] (by kernel_rfl) ?_
 refine wS_end (by rfl) ?_
 refine eX_then ?_
 refine cW_seq ?_
 refine cW_region ?_
 refine wS_bs (enc := encI) ([(-1)] : List (Int)) [.int .i64 ((-1))] (d := 9) (t := 75) (T := 3) (n := 1) (ps := [(0, .int .i64 ((-1)))]) (by kernel_rfl) el75 encI_ok (by rfl) (by omega) (by omega) (by kernel_rfl) (by rfl) ?_
 intro b1 w1 G1 F1 hc1
 replace F0 := F0.chg hc1 Dj.nil
 replace hB := hB.inS hc1 inNil
 replace G1 := Nat.le_trans hZ G1
 replace G1 := low1 G1
 replace hZ := Nat.le_trans hZ hc1.size
 refine wS_pure 2 [(11, .int .i64 (((l0).length : Int))), (10, .slice A0 (l0).length cap0)] (by kernel_rfl) ?_
 obtain ⟨y1, hy1, hm⟩ := bindE hm
 refine wS_calls (d := 12) (f := 125) (vs := [.slice (some ⟨b1, 0, none⟩) (([(-1)] : List (Int))).length 1, .int .i64 (((l0).length : Int))]) (by kernel_rfl) ent125 (c_slices_Repeat_int_int hy1 (F1.sl encI_ok)) ?_
 rintro _ w2 ⟨A1, cap1, fp1, rfl, F2, G2, hc2⟩
 have D1 : Dj [b1] fp1 := Dj.of F1.low G2
 replace F0 := F0.chg hc2 Dj.nil
 replace F1 := F1.chg hc2 Dj.nil
 replace hB := hB.inS hc2 inNil
 replace G2 := low_le hZ G2
 replace hZ := Nat.le_trans hZ hc2.size
 refine ⟨.slice A1 (y1).length cap1, rfl, ?_⟩
 refine wS_pure 1 [(5, .slice A1 (y1).length cap1)] (by kernel_rfl) ?_
 refine wS_end (by rfl) ?_
 refine eX_then ?_
 refine cW_seq ?_
 refine cW_region ?_
 refine wS_pure 2 [(14, .int .i64 (p1)), (13, .slice A1 (y1).length cap1)] (by kernel_rfl) ?_
 obtain ⟨x1, hx1, hm⟩ := bindE hm
 refine wS_idx (d := 15) (T := 75) (A := A1) (n := (y1).length) (cap := cap1) (kd := .i64) (m := p1) (by kernel_rfl) sl75 ((F2.sl encI_ok).is hx1) ?_
 refine wS_storeEl (x := x1) 0 (T := 3) (U := 3) (cap := cap1) (j := 0) (A := A1) (v := .int .i64 (0)) (vs := [.int .i64 (0)]) (m := p1) (by kernel_rfl) (by rfl) sz3 (by rfl) encI_ok F2 hx1 (by simp only [List.length_cons, List.length_nil]; omega) (by rfl) ?_
 intro w3 F3 hc3
 replace F0 := F0.chg hc3 (Dj.of L0 G2)
 replace F1 := F1.chg hc3 D1
 replace hB := hB.inS hc3 (inLow G2)
 replace hZ := Nat.le_trans hZ hc3.size
 clear F2
 rewrite [show (y1).length = (y1.set (Int.toNat p1) 0).length from (List.length_set ..).symm]
 refine wS_end (by rfl) ?_
 refine eX_then ?_
 refine cW_seq ?_
 refine cW_seq ?_
 refine cW_region ?_
 refine wS_pure 1 [(16, .int .i64 (p1))] (by kernel_rfl) ?_
 refine wS_bs (enc := encI) ([p1] : List (Int)) [.int .i64 (p1)] (d := 17) (t := 75) (T := 3) (n := 1) (ps := [(0, .int .i64 (p1))]) (by kernel_rfl) el75 encI_ok (by rfl) (by omega) (by omega) (by kernel_rfl) (by rfl) ?_
 intro b2 w4 G3 F4 hc4
 have D2 : Dj [b1] [b2] := Dj.of F1.low (low1 G3)
 have D3 : Dj fp1 [b2] := Dj.of F3.low (low1 G3)
 replace F0 := F0.chg hc4 Dj.nil
 replace F1 := F1.chg hc4 Dj.nil
 replace F3 := F3.chg hc4 Dj.nil
 replace hB := hB.inS hc4 inNil
 replace G3 := Nat.le_trans hZ G3
 replace G3 := low1 G3
 replace hZ := Nat.le_trans hZ hc4.size
 refine wS_pure 1 [(6, .slice (some ⟨b2, 0, none⟩) (([p1] : List (Int))).length 1)] (by kernel_rfl) ?_
 refine wS_end (by rfl) ?_
 refine eX_then ?_
 obtain ⟨r1, hr1, hm⟩ := bindE hm
 have hm1 := hm
 refine cW_cut (fun a' w' => ∃ l1 : List (Int), l1 = r1 ∧ Fr 58 [(5, .slice A1 (l1).length cap1)] a' ∧ Ow 1 encI 3 w' fp1 A1 cap1 l1 ∧ Chg [] w0 w' ∧ w0.heap.size ≤ w'.heap.size) ?_ ?_
 ·refine cW_block ?_
  refine cW_loop _ (fun (s1 : (List (Int)) × (List (Int))) a' w' => ∃ l3 : List (Int), ∃ A3 : Option Addr, ∃ cap3 : Nat, ∃ fp2 : List Nat, ∃ l4 : List (Int), (l3, l4) = s1 ∧ Fr 58 [(0, .slice A0 (l0).length cap0), (5, .slice A1 (l4).length cap1), (6, .slice A3 (l3).length cap3)] a' ∧ SlR 1 encI w' fp0 A0 l0 ∧ Ow 1 encI 3 w' fp1 A1 cap1 l4 ∧ OwO 1 encI 3 w' fp2 A3 cap3 l3 ∧ (∀ x ∈ fp2, w0.heap.size ≤ x) ∧ Dj fp1 fp2 ∧ Chg [] w0 w' ∧ w0.heap.size ≤ w'.heap.size) hr1 (fun hst => ⟨([p1] : List (Int)), (some ⟨b2, 0, none⟩), 1, [b2], y1.set (Int.toNat p1) 0, rfl, Fr.of hst (by kernel_rfl), F0, F3, F4.off, G3, D3, hB, hZ⟩) ?_
  rintro _ c1 a' w5 ⟨l3, A3, cap3, fp2, l4, rfl, hF1, F5, F6, F7, G4, D4, hB, hZ⟩ hx2
  refine Fr.goOn hF1 (by kernel_rfl) ?_
  have hm := hx2
  unfold m_impl_graph_back_s3 at hm
  refine cW_seq ?_
  refine cW_seq ?_
  refine cW_region ?_
  refine wS_pure 3 [(20, .bool (decide ((((l3).length : Int)) > 0))), (19, .int .i64 (((l3).length : Int))), (18, .slice A3 (l3).length cap3)] (by kernel_rfl) ?_
  refine wS_end (by rfl) ?_
  refine eX_then ?_
  refine cW_cond (t := decide ((((l3).length : Int)) > 0)) (by kernel_rfl) (fun hb1 => ?_) (fun hb1 => ?_)
  ·have hm := condT hb1 hm
   refine cW_skip ?_
   refine eX_then ?_
   refine cW_seq ?_
   refine cW_block ?_
   refine cW_seq ?_
   refine cW_region ?_
   refine wS_pure 3 [(25, .int .i64 (0)), (24, .int .i64 (((l0).length : Int))), (23, .slice A0 (l0).length cap0)] (by kernel_rfl) ?_
   refine wS_end (by rfl) ?_
   refine eX_then ?_
   obtain ⟨r2, hr2, hm⟩ := bindE hm
   have hm2 := hm
   refine cW_cut (fun a' w' => ∃ l5 : List (Int), ∃ A4 : Option Addr, ∃ cap4 : Nat, ∃ fp3 : List Nat, ∃ l6 : List (Int), (l5, l6) = r2 ∧ Fr 58 [(0, .slice A0 (l0).length cap0), (5, .slice A1 (l6).length cap1), (6, .slice A4 (l5).length cap4)] a' ∧ SlR 1 encI w' fp0 A0 l0 ∧ Ow 1 encI 3 w' fp1 A1 cap1 l6 ∧ OwO 1 encI 3 w' fp3 A4 cap4 l5 ∧ (∀ x ∈ fp3, w0.heap.size ≤ x) ∧ Dj fp1 fp3 ∧ Chg [] w0 w' ∧ w0.heap.size ≤ w'.heap.size) ?_ ?_
   ·refine cW_block ?_
    refine cW_loop _ (fun (s2 : (List (Int)) × Int × (List (Int))) a' w' => ∃ l7 : List (Int), ∃ A5 : Option Addr, ∃ cap5 : Nat, ∃ fp4 : List Nat, ∃ x2 : Int, ∃ l8 : List (Int), (l7, x2, l8) = s2 ∧ Fr 58 [(0, .slice A0 (l0).length cap0), (5, .slice A1 (l8).length cap1), (6, .slice A5 (l7).length cap5), (23, .slice A0 (l0).length cap0), (24, .int .i64 (((l0).length : Int))), (25, .int .i64 (x2))] a' ∧ SlR 1 encI w' fp0 A0 l0 ∧ Ow 1 encI 3 w' fp1 A1 cap1 l8 ∧ OwO 1 encI 3 w' fp4 A5 cap5 l7 ∧ (∀ x ∈ fp4, w0.heap.size ≤ x) ∧ Dj fp1 fp4 ∧ Chg [] w0 w' ∧ w0.heap.size ≤ w'.heap.size) hr2 (fun hst => ⟨l3, A3, cap3, fp2, 0, l4, rfl, Fr.of hst (by kernel_rfl), F5, F6, F7, G4, D4, hB, hZ⟩) ?_
    rintro _ c2 a' w6 ⟨l7, A5, cap5, fp4, x2, l8, rfl, hF2, F8, F9, F10, G5, D5, hB, hZ⟩ hx3
    refine Fr.goOn hF2 (by kernel_rfl) ?_
    have hm := hx3
    unfold m_impl_graph_back_s4 at hm
    refine cW_seq ?_
    refine cW_region ?_
    refine wS_pure 1 [(26, .bool (decide (x2 < (((l0).length : Int)))))] (by kernel_rfl) ?_
    refine wS_end (by rfl) ?_
    refine eX_then ?_
    refine cW_seq ?_
    refine cW_cond (t := decide (x2 < (((l0).length : Int)))) (by kernel_rfl) (fun hb2 => ?_) (fun hb2 => ?_)
    ·have hm := condT hb2 hm
     refine cW_skip ?_
     refine eX_then ?_
     refine cW_seq ?_
     refine cW_block ?_
     obtain ⟨s3, hs1, hm⟩ := bindE hm
     refine cW_cut (fun a' w' => ∃ l9 : List (Int), ∃ A6 : Option Addr, ∃ cap6 : Nat, ∃ fp5 : List Nat, ∃ l10 : List (Int), (l9, l10) = s3 ∧ Fr 58 [(0, .slice A0 (l0).length cap0), (5, .slice A1 (l10).length cap1), (6, .slice A6 (l9).length cap6), (23, .slice A0 (l0).length cap0), (24, .int .i64 (((l0).length : Int))), (25, .int .i64 (x2))] a' ∧ SlR 1 encI w' fp0 A0 l0 ∧ Ow 1 encI 3 w' fp1 A1 cap1 l10 ∧ OwO 1 encI 3 w' fp5 A6 cap6 l9 ∧ (∀ x ∈ fp5, w0.heap.size ≤ x) ∧ Dj fp1 fp5 ∧ Chg [] w0 w' ∧ w0.heap.size ≤ w'.heap.size) ?_ ?_
     ·have hm := hs1
      refine cW_seq ?_
      refine cW_region ?_
      refine wS_pure 1 [(27, .int .i64 (x2))] (by kernel_rfl) ?_
      obtain ⟨x3, hx4, hm⟩ := bindE hm
      refine wS_idx (d := 28) (T := 77) (A := A0) (n := (l0).length) (cap := cap0) (kd := .i64) (m := x2) (by kernel_rfl) sl77 (F8.is hx4) ?_
      obtain ⟨A7, cap7, hc5, F11, K1⟩ := SlR.row F8 hx4
      refine wS_load1 (d := 29) (T := 75) (ad := (elA A0 1 (x2) 0)) (v := .slice A7 (x3).length cap7) (by kernel_rfl) vt75 hc5 ?_
      refine wS_pure 2 [(8, .slice A7 (x3).length cap7), (7, .int .i64 (x2))] (by kernel_rfl) ?_
      refine wS_end (by rfl) ?_
      refine eX_then ?_
      refine cW_seq ?_
      refine cW_region ?_
      refine wS_pure 2 [(31, .int .i64 (x2)), (30, .slice A1 (l8).length cap1)] (by kernel_rfl) ?_
      obtain ⟨x4, hx5, hm⟩ := bindE hm
      refine wS_idx (d := 32) (T := 75) (A := A1) (n := (l8).length) (cap := cap1) (kd := .i64) (m := x2) (by kernel_rfl) sl75 ((F9.sl encI_ok).is hx5) ?_
      refine wS_load1 (d := 33) (T := 3) (ad := (elA A1 1 (x2) 0)) (v := .int .i64 (x4)) (by kernel_rfl) vt3 (Sl.cell (F9.sl encI_ok) hx5 0 (by rfl)) ?_
      refine wS_pure 2 [(35, .bool (decide (x4 < 0))), (34, .bool (decide (x4 < 0)))] (by kernel_rfl) ?_
      refine wS_bool (decide (x4 < 0)) (fun hb3 => ?_) (fun hb3 => ?_)
      ·have hm := condT hb3 hm
       rewrite [hb3]
       refine wS_pure 2 [(37, .slice A5 (l7).length cap5), (36, .slice A7 (x3).length cap7)] (by kernel_rfl) ?_
       obtain ⟨x5, hx6, hm⟩ := bindE hm
       refine wS_idx (d := 38) (T := 75) (A := A5) (n := (l7).length) (cap := cap5) (kd := .i64) (m := 0) (by kernel_rfl) sl75 ((F10.sl encI_ok).is hx6) ?_
       refine wS_load1 (d := 39) (T := 3) (ad := (elA A5 1 (0) 0)) (v := .int .i64 (x5)) (by kernel_rfl) vt3 (Sl.cell (F10.sl encI_ok) hx6 0 (by rfl)) ?_
       obtain ⟨y2, hy2, hm⟩ := bindE hm
       refine wS_calls (d := 40) (f := 99) (vs := [.slice A7 (x3).length cap7, .int .i64 (x5)]) (by kernel_rfl) ent99 (c_slices_Contains_int_int hy2 F11) ?_
       rintro _ w7 ⟨rfl, hc6⟩
       replace F8 := F8.chg hc6 Dj.nil
       replace F9 := F9.chg hc6 Dj.nil
       replace F10 := F10.chg hc6 Dj.nil
       replace F11 := F11.chg hc6 Dj.nil
       replace hB := hB.inS hc6 inNil
       replace hZ := Nat.le_trans hZ hc6.size
       refine ⟨.bool (y2), rfl, ?_⟩
       refine wS_pure 1 [(41, .bool (y2))] (by kernel_rfl) ?_
       refine wS_end (by rfl) ?_
       refine eX_then ?_
       refine cW_prune [(0, .slice A0 (l0).length cap0), (5, .slice A1 (l8).length cap1), (6, .slice A5 (l7).length cap5), (7, .int .i64 (x2)), (23, .slice A0 (l0).length cap0), (24, .int .i64 (((l0).length : Int))), (25, .int .i64 (x2)), (41, .bool (y2))] (by kernel_rfl) (by kernel_rfl) (fun a1 => ?_)
       refine cW_cond (t := y2) (by kernel_rfl) (fun hb4 => ?_) (fun hb4 => ?_)
       ·have hm := condT hb4 hm
        refine cW_seq ?_
        refine cW_region ?_
        refine wS_pure 4 [(45, .slice A5 (l7).length cap5), (44, .slice A1 (l8).length cap1), (43, .int .i64 (x2)), (42, .slice A1 (l8).length cap1)] (by kernel_rfl) ?_
        obtain ⟨x6, hx7, hm⟩ := bindE hm
        refine wS_idx (d := 46) (T := 75) (A := A5) (n := (l7).length) (cap := cap5) (kd := .i64) (m := 0) (by kernel_rfl) sl75 ((F10.sl encI_ok).is hx7) ?_
        refine wS_load1 (d := 47) (T := 3) (ad := (elA A5 1 (0) 0)) (v := .int .i64 (x6)) (by kernel_rfl) vt3 (Sl.cell (F10.sl encI_ok) hx7 0 (by rfl)) ?_
        obtain ⟨x7, hx8, hm⟩ := bindE hm
        refine wS_idx (d := 48) (T := 75) (A := A1) (n := (l8).length) (cap := cap1) (kd := .i64) (m := x6) (by kernel_rfl) sl75 ((F9.sl encI_ok).is hx8) ?_
        refine wS_load1 (d := 49) (T := 3) (ad := (elA A1 1 (x6) 0)) (v := .int .i64 (x7)) (by kernel_rfl) vt3 (Sl.cell (F9.sl encI_ok) hx8 0 (by rfl)) ?_
        refine wS_pure 1 [(50, .int .i64 (wr (x7 + 1)))] (by kernel_rfl) ?_
        obtain ⟨x8, hx9, hm⟩ := bindE hm
        refine wS_idx (d := 51) (T := 75) (A := A1) (n := (l8).length) (cap := cap1) (kd := .i64) (m := x2) (by kernel_rfl) sl75 ((F9.sl encI_ok).is hx9) ?_
        refine wS_storeEl (x := x8) (wr (x7 + 1)) (T := 3) (U := 3) (cap := cap1) (j := 0) (A := A1) (v := .int .i64 (wr (x7 + 1))) (vs := [.int .i64 (wr (x7 + 1))]) (m := x2) (by kernel_rfl) (by rfl) sz3 (by rfl) encI_ok F9 hx9 (by simp only [List.length_cons, List.length_nil]; omega) (by rfl) ?_
        intro w8 F12 hc7
        replace F8 := F8.chg hc7 (Dj.of L0 G2)
        replace F10 := F10.chg hc7 (D5).symm
        replace F11 := F11.chg hc7 (Dj.of L0 G2)
        replace hB := hB.inS hc7 (inLow G2)
        replace hZ := Nat.le_trans hZ hc7.size
        clear F9
        rewrite [show (l8).length = (l8.set (Int.toNat x2) (wr (x7 + 1))).length from (List.length_set ..).symm]
        refine wS_end (by rfl) ?_
        refine eX_then ?_
        refine cW_region ?_
        refine wS_pure 2 [(53, .int .i64 (x2)), (52, .slice A5 (l7).length cap5)] (by kernel_rfl) ?_
        refine wS_bs (enc := encI) ([x2] : List (Int)) [.int .i64 (x2)] (d := 54) (t := 75) (T := 3) (n := 1) (ps := [(0, .int .i64 (x2))]) (by kernel_rfl) el75 encI_ok (by rfl) (by omega) (by omega) (by kernel_rfl) (by rfl) ?_
        intro b3 w9 G6 F13 hc8
        have D6 : Dj fp1 [b3] := Dj.of F12.low (low1 G6)
        have D7 : Dj fp4 [b3] := Dj.of F10.low (low1 G6)
        replace F8 := F8.chg hc8 Dj.nil
        replace F12 := F12.chg hc8 Dj.nil
        replace F10 := F10.chg hc8 Dj.nil
        replace F11 := F11.chg hc8 Dj.nil
        replace hB := hB.inS hc8 inNil
        replace G6 := Nat.le_trans hZ G6
        replace G6 := low1 G6
        replace hZ := Nat.le_trans hZ hc8.size
        obtain ⟨_, hk1, hm⟩ := bindE hm
        replace hk1 := apE hk1
        refine wS_appendO (enc := encI) (l := (l7 : List (Int))) (l2 := (([x2] : List (Int)) : List (Int))) (d := 55) (t := 75) (T := 3) (A := A5) (A2 := (some ⟨b3, 0, none⟩)) (cap := cap5) (cap2 := 1) (by kernel_rfl) el75 encI_ok F10 (F13.sl encI_ok) hk1 ?_
        intro w10 fp6 A8 cap8 F14 hc9 hp1
        have G7 := low_ap G5 hZ hp1
        have D8 : Dj fp1 fp6 := Dj.ap D5 F12.low hp1
        have D9 : Dj [b3] fp6 := Dj.ap (D7).symm F13.low hp1
        replace F8 := F8.chg hc9 (Dj.of L0 G5)
        replace F12 := F12.chg hc9 D5
        replace F11 := F11.chg hc9 (Dj.of L0 G5)
        replace F13 := F13.chg hc9 (D7).symm
        replace hB := hB.inS hc9 (inLow G5)
        replace hZ := Nat.le_trans hZ hc9.size
        refine wS_pure 1 [(6, .slice A8 (l7 ++ (([x2] : List (Int)))).length cap8)] (by kernel_rfl) ?_
        refine wS_end (by rfl) ?_
        have hq : (some ((l7 ++ (([x2] : List (Int))), l8.set (Int.toNat x2) (wr (x7 + 1)))) : Option ((List (Int)) × (List (Int)))) = some _ := hm
        replace hq := someE hq
        subst hq
        exact eX_J (fun hst => ⟨l7 ++ (([x2] : List (Int))), A8, cap8, fp6, l8.set (Int.toNat x2) (wr (x7 + 1)), rfl, Fr.of hst (by kernel_rfl), F8, F12, F14, G7, D8, hB, hZ⟩)
       ·have hm := condF hb4 hm
        refine cW_skip ?_
        have hq : (some ((l7, l8)) : Option ((List (Int)) × (List (Int)))) = some _ := hm
        replace hq := someE hq
        subst hq
        exact eX_J (fun hst => ⟨l7, A5, cap5, fp4, l8, rfl, Fr.of hst (by kernel_rfl), F8, F9, F10, G5, D5, hB, hZ⟩)
      ·have hm := condF hb3 hm
       rewrite [hb3]
       refine wS_pure 6 [(41, .bool (false)), (40, undef), (39, undef), (38, undef), (37, undef), (36, undef)] (by kernel_rfl) ?_
       refine wS_end (by rfl) ?_
       refine eX_then ?_
       refine cW_prune [(0, .slice A0 (l0).length cap0), (5, .slice A1 (l8).length cap1), (6, .slice A5 (l7).length cap5), (7, .int .i64 (x2)), (23, .slice A0 (l0).length cap0), (24, .int .i64 (((l0).length : Int))), (25, .int .i64 (x2)), (41, .bool (false))] (by kernel_rfl) (by kernel_rfl) (fun a2 => ?_)
       refine cW_cond_f (by kernel_rfl) ?_
       refine cW_skip ?_
       have hq : (some ((l7, l8)) : Option ((List (Int)) × (List (Int)))) = some _ := hm
       replace hq := someE hq
       subst hq
       exact eX_J (fun hst => ⟨l7, A5, cap5, fp4, l8, rfl, Fr.of hst (by kernel_rfl), F8, F9, F10, G5, D5, hB, hZ⟩)
     ·rintro a' w11 ⟨l9, A6, cap6, fp5, l10, hJ, hF3, F15, F16, F17, G8, D10, hB, hZ⟩
      subst hJ
      refine Fr.goX hF3 (by kernel_rfl) ?_
      refine eX_block ?_
      refine eX_then ?_
      refine cW_region ?_
      refine wS_pure 2 [(25, .int .i64 (wr (x2 + 1))), (56, .int .i64 (wr (x2 + 1)))] (by kernel_rfl) ?_
      refine wS_end (by rfl) ?_
      have hq : (some (Ctl.next ((l9, wr (x2 + 1), l10))) : Option (Ctl ((List (Int)) × Int × (List (Int))) ((List (Int)) × (List (Int))))) = some _ := hm
      replace hq := someE hq
      subst hq
      exact eX_next hx3 (fun hst => ⟨l9, A6, cap6, fp5, wr (x2 + 1), l10, rfl, Fr.of hst (by kernel_rfl), F15, F16, F17, G8, D10, hB, hZ⟩)
    ·have hm := condF hb2 hm
     refine cW_exit ?_
     refine eX_then_exit ?_
     have hq : (some (Ctl.out ((l7, l8))) : Option (Ctl ((List (Int)) × Int × (List (Int))) ((List (Int)) × (List (Int))))) = some _ := hm
     replace hq := someE hq
     subst hq
     refine eX_outX hx3 (fun hr3 => ?_)
     replace hr3 := hr3.symm
     subst hr3
     refine eX_block_hit ?_
     exact eX_J (fun hst => ⟨l7, A5, cap5, fp4, l8, rfl, Fr.of hst (by kernel_rfl), F8, F9, F10, G5, D5, hB, hZ⟩)
   ·rintro a' w12 ⟨l5, A4, cap4, fp3, l6, hJ, hF4, F18, F19, F20, G9, D11, hB, hZ⟩
    subst hJ
    refine Fr.goX hF4 (by kernel_rfl) ?_
    refine eX_block ?_
    refine eX_then ?_
    refine cW_region ?_
    refine wS_pure 1 [(21, .slice A4 (l5).length cap4)] (by kernel_rfl) ?_
    obtain ⟨y3, hy3, hm⟩ := bindE hm
    refine wS_cutO (k := 1) (enc := encI) (U := 3) (l := l5) (d := 22) (T := 75) (A := A4) (cap := cap4) (lo := 1) (by kernel_rfl) sl75 encI_ok F20 hy3 ?_
    intro A9 cap9 F21
    refine wS_pure 1 [(6, .slice A9 (l5.drop (Int.toNat 1)).length cap9)] (by kernel_rfl) ?_
    refine wS_end (by rfl) ?_
    have hq : (some (Ctl.next ((l5.drop (Int.toNat 1), l6))) : Option (Ctl ((List (Int)) × (List (Int))) ((List (Int))))) = some _ := hm
    replace hq := someE hq
    subst hq
    exact eX_next hx2 (fun hst => ⟨l5.drop (Int.toNat 1), A9, cap9, fp3, l6, rfl, Fr.of hst (by kernel_rfl), F18, F19, F21, G9, D11, hB, hZ⟩)
  ·have hm := condF hb1 hm
   refine cW_exit ?_
   refine eX_then_exit ?_
   have hq : (some (Ctl.out l4) : Option (Ctl ((List (Int)) × (List (Int))) ((List (Int))))) = some _ := hm
   replace hq := someE hq
   subst hq
   refine eX_outX hx2 (fun hr4 => ?_)
   replace hr4 := hr4.symm
   subst hr4
   refine eX_block_hit ?_
   exact eX_J (fun hst => ⟨l4, rfl, Fr.of hst (by kernel_rfl), F6, hB, hZ⟩)
 ·rintro a' w13 ⟨l1, hJ, hF5, F22, hB, hZ⟩
  subst hJ
  refine Fr.goX hF5 (by kernel_rfl) ?_
  refine eX_then ?_
  refine cW_seq ?_
  refine cW_region ?_
  refine wS_pure 2 [(4, .slice A1 (l1).length cap1), (57, .slice A1 (l1).length cap1)] (by kernel_rfl) ?_
  refine wS_end (by rfl) ?_
  refine eX_then ?_
  refine cW_ret ?_
  have hq : (some l1 : Option ((List (Int)))) = some _ := hm
  replace hq := someE hq
  subst hq
  refine eX_ret (vs := [.slice A1 (l1).length cap1]) [.tmp 4] (by rfl) ⟨by (show lkE _ _ _ = _); kernel_rfl, trivial⟩ ?_
  exact ⟨A1, cap1, fp1, rfl, F22, G2, hB⟩

set_option maxRecDepth 100000 in
/-- impl.graph).oddRing$1 -/
theorem c_impl_graph_oddRing_1_bint_bint_bimplgraph_bint_bint_bint_bfuncbool_self_body {R : (List (Int)) → (Int) → (List (List (Int))) → (Int) → (List (Int)) → (Int) → Option ((Bool) × (List (Int)))} (hR : ∀ {w0 : World} {l0_0 : List (Int)} {A0_0 : Option Addr} {cap0_0 : Nat} {fp0_0 : List Nat} {b0 : Nat} {q1_0 : Int} {b1 : Nat} {l2_0 : List (List (Int))} {A2_0 : Option Addr} {cap2_0 : Nat} {fp2_0 : List Nat} {b2 : Nat} {q3_0 : Int} {b3 : Nat} {l4_0 : List (Int)} {A4_0 : Option Addr} {cap4_0 : Nat} {fp4_0 : List Nat} {b4 : Nat} {q5_0 : Int} {b5 : Nat} {b6 : Nat} {r : (Bool) × (List (Int))} (hm : R l0_0 q1_0 l2_0 q3_0 l4_0 q5_0 = some r) (F0_0 : Ow 1 encI 3 w0 fp0_0 A0_0 cap0_0 l0_0) (F0 : Cl w0 b0 75 [.slice A0_0 (l0_0).length cap0_0]) (F1 : Cl w0 b1 3 [.int .i64 (q1_0)]) (F2_0 : SlR 1 encI w0 fp2_0 A2_0 l2_0) (F2 : Cl w0 b2 77 [.slice A2_0 (l2_0).length cap2_0]) (F3 : Cl w0 b3 3 [.int .i64 (q3_0)]) (F4_0 : Sl 1 encI w0 fp4_0 A4_0 l4_0) (F4 : Cl w0 b4 75 [.slice A4_0 (l4_0).length cap4_0]) (F5 : Cl w0 b5 3 [.int .i64 (q5_0)]) (F6 : Cl w0 b6 127 [.func (.func 98) #[] #[.pointer (some ⟨b0, 0, none⟩), .pointer (some ⟨b1, 0, none⟩), .pointer (some ⟨b2, 0, none⟩), .pointer (some ⟨b3, 0, none⟩), .pointer (some ⟨b4, 0, none⟩), .pointer (some ⟨b5, 0, none⟩), .pointer (some ⟨b6, 0, none⟩)]]) (J0__0_0 : Dj [b0] fp0_0) (J0__1 : Dj [b0] [b1]) (J0__2_0 : Dj [b0] fp2_0) (J0__2 : Dj [b0] [b2]) (J0__3 : Dj [b0] [b3]) (J0__4_0 : Dj [b0] fp4_0) (J0__4 : Dj [b0] [b4]) (J0__5 : Dj [b0] [b5]) (J0__6 : Dj [b0] [b6]) (J0_0__1 : Dj fp0_0 [b1]) (J0_0__2_0 : Dj fp0_0 fp2_0) (J0_0__2 : Dj fp0_0 [b2]) (J0_0__3 : Dj fp0_0 [b3]) (J0_0__4_0 : Dj fp0_0 fp4_0) (J0_0__4 : Dj fp0_0 [b4]) (J0_0__5 : Dj fp0_0 [b5]) (J0_0__6 : Dj fp0_0 [b6]), Calls Try.prog 98 #[.pointer (some ⟨b0, 0, none⟩), .pointer (some ⟨b1, 0, none⟩), .pointer (some ⟨b2, 0, none⟩), .pointer (some ⟨b3, 0, none⟩), .pointer (some ⟨b4, 0, none⟩), .pointer (some ⟨b5, 0, none⟩), .pointer (some ⟨b6, 0, none⟩)] w0 fun e w' => ∃ At0_0 capt0_0 fpt0_0, e = .returned (.bool (r.1)) ∧ Cl w' b0 75 [.slice At0_0 (r.2).length capt0_0] ∧ Ow 1 encI 3 w' fpt0_0 At0_0 capt0_0 r.2 ∧ Rt w0.heap.size fp0_0 fpt0_0 ∧ Chg ([b0] ++ (fp0_0 ++ [])) w0 w') {w0 : World} {l0_0 : List (Int)} {A0_0 : Option Addr} {cap0_0 : Nat} {fp0_0 : List Nat} {b0 : Nat} {q1_0 : Int} {b1 : Nat} {l2_0 : List (List (Int))} {A2_0 : Option Addr} {cap2_0 : Nat} {fp2_0 : List Nat} {b2 : Nat} {q3_0 : Int} {b3 : Nat} {l4_0 : List (Int)} {A4_0 : Option Addr} {cap4_0 : Nat} {fp4_0 : List Nat} {b4 : Nat} {q5_0 : Int} {b5 : Nat} {b6 : Nat} {r : (Bool) × (List (Int))} (hm : m_impl_graph_oddRing_1_bint_bint_bimplgraph_bint_bint_bint_bfuncbool_self_body R l0_0 q1_0 l2_0 q3_0 l4_0 q5_0 = some r) (F0_0 : Ow 1 encI 3 w0 fp0_0 A0_0 cap0_0 l0_0) (F0 : Cl w0 b0 75 [.slice A0_0 (l0_0).length cap0_0]) (F1 : Cl w0 b1 3 [.int .i64 (q1_0)]) (F2_0 : SlR 1 encI w0 fp2_0 A2_0 l2_0) (F2 : Cl w0 b2 77 [.slice A2_0 (l2_0).length cap2_0]) (F3 : Cl w0 b3 3 [.int .i64 (q3_0)]) (F4_0 : Sl 1 encI w0 fp4_0 A4_0 l4_0) (F4 : Cl w0 b4 75 [.slice A4_0 (l4_0).length cap4_0]) (F5 : Cl w0 b5 3 [.int .i64 (q5_0)]) (F6 : Cl w0 b6 127 [.func (.func 98) #[] #[.pointer (some ⟨b0, 0, none⟩), .pointer (some ⟨b1, 0, none⟩), .pointer (some ⟨b2, 0, none⟩), .pointer (some ⟨b3, 0, none⟩), .pointer (some ⟨b4, 0, none⟩), .pointer (some ⟨b5, 0, none⟩), .pointer (some ⟨b6, 0, none⟩)]]) (J0__0_0 : Dj [b0] fp0_0) (J0__1 : Dj [b0] [b1]) (J0__2_0 : Dj [b0] fp2_0) (J0__2 : Dj [b0] [b2]) (J0__3 : Dj [b0] [b3]) (J0__4_0 : Dj [b0] fp4_0) (J0__4 : Dj [b0] [b4]) (J0__5 : Dj [b0] [b5]) (J0__6 : Dj [b0] [b6]) (J0_0__1 : Dj fp0_0 [b1]) (J0_0__2_0 : Dj fp0_0 fp2_0) (J0_0__2 : Dj fp0_0 [b2]) (J0_0__3 : Dj fp0_0 [b3]) (J0_0__4_0 : Dj fp0_0 fp4_0) (J0_0__4 : Dj fp0_0 [b4]) (J0_0__5 : Dj fp0_0 [b5]) (J0_0__6 : Dj fp0_0 [b6]) :
  Calls Try.prog 98 #[.pointer (some ⟨b0, 0, none⟩), .pointer (some ⟨b1, 0, none⟩), .pointer (some ⟨b2, 0, none⟩), .pointer (some ⟨b3, 0, none⟩), .pointer (some ⟨b4, 0, none⟩), .pointer (some ⟨b5, 0, none⟩), .pointer (some ⟨b6, 0, none⟩)] w0 fun e w' => ∃ At0_0 capt0_0 fpt0_0, e = .returned (.bool (r.1)) ∧ Cl w' b0 75 [.slice At0_0 (r.2).length capt0_0] ∧ Ow 1 encI 3 w' fpt0_0 At0_0 capt0_0 r.2 ∧ Rt w0.heap.size fp0_0 fpt0_0 ∧ Chg ([b0] ++ (fp0_0 ++ [])) w0 w' := by
 have L0 := lt1 F0.lt
 have L1 := lt1 F1.lt
 have L2_0 := F2_0.low
 have L2 := lt1 F2.lt
 have L3 := lt1 F3.lt
 have L4_0 := F4_0.low
 have L4 := lt1 F4.lt
 have L5 := lt1 F5.lt
 have L6 := lt1 F6.lt
 have hB : Chg ([b0] ++ (fp0_0 ++ [])) w0 w0 := Chg.refl _ _
 have hZ := Nat.le_refl w0.heap.size
 unfold m_impl_graph_oddRing_1_bint_bint_bimplgraph_bint_bint_bint_bfuncbool_self_body at hm
 refine enterE (N := 73) Try.func98 (by rfl) Try.ntmps98 (by simp) [(0, .pointer (some ⟨b0, 0, none⟩)), (1, .pointer (some ⟨b1, 0, none⟩)), (2, .pointer (some ⟨b2, 0, none⟩)), (3, .pointer (some ⟨b3, 0, none⟩)), (4, .pointer (some ⟨b4, 0, none⟩)), (5, .pointer (some ⟨b5, 0, none⟩)), (6, .pointer (some ⟨b6, 0, none⟩))] (by rfl) (by kernel_rfl) (fun a => ?_)
 refine cW_seq ?_
 refine cW_region ?_
 refine wS_pure 1 [(7, .bool (false))] (by kernel_rfl) ?_
 refine wS_end (by rfl) ?_
 refine eX_then ?_
 refine cW_seq ?_
 refine cW_region ?_
 refine wS_load1 (d := 13) (T := 75) (ad := ⟨b0, 0, none⟩) (v := .slice A0_0 (l0_0).length cap0_0) (by kernel_rfl) vt75 ((F0).cell 0) ?_
 refine wS_load1 (d := 14) (T := 75) (ad := ⟨b0, 0, none⟩) (v := .slice A0_0 (l0_0).length cap0_0) (by kernel_rfl) vt75 ((F0).cell 0) ?_
 refine wS_pure 2 [(16, .int .i64 (wr ((((l0_0).length : Int)) - 1))), (15, .int .i64 (((l0_0).length : Int)))] (by kernel_rfl) ?_
 obtain ⟨x1, hx1, hm⟩ := bindE hm
 refine wS_idx (d := 17) (T := 75) (A := A0_0) (n := (l0_0).length) (cap := cap0_0) (kd := .i64) (m := wr ((((l0_0).length : Int)) - 1)) (by kernel_rfl) sl75 ((F0_0.sl encI_ok).is hx1) ?_
 refine wS_load1 (d := 18) (T := 3) (ad := (elA A0_0 1 (wr ((((l0_0).length : Int)) - 1)) 0)) (v := .int .i64 (x1)) (by kernel_rfl) vt3 (Sl.cell (F0_0.sl encI_ok) hx1 0 (by rfl)) ?_
 refine wS_pure 1 [(8, .int .i64 (x1))] (by kernel_rfl) ?_
 refine wS_end (by rfl) ?_
 refine eX_then ?_
 refine cW_seq ?_
 refine cW_region ?_
 refine wS_load1 (d := 19) (T := 3) (ad := ⟨b1, 0, none⟩) (v := .int .i64 (q1_0)) (by kernel_rfl) vt3 ((F1).cell 0) ?_
 refine wS_load1 (d := 20) (T := 75) (ad := ⟨b0, 0, none⟩) (v := .slice A0_0 (l0_0).length cap0_0) (by kernel_rfl) vt75 ((F0).cell 0) ?_
 refine wS_pure 3 [(9, .int .i64 (wr (q1_0 - (((l0_0).length : Int))))), (22, .int .i64 (wr (q1_0 - (((l0_0).length : Int))))), (21, .int .i64 (((l0_0).length : Int)))] (by kernel_rfl) ?_
 refine wS_end (by rfl) ?_
 refine eX_then ?_
 refine cW_seq ?_
 refine cW_seq ?_
 refine cW_region ?_
 refine wS_pure 2 [(24, .bool ((wr (q1_0 - (((l0_0).length : Int)))) == 0)), (23, .int .i64 (wr (q1_0 - (((l0_0).length : Int)))))] (by kernel_rfl) ?_
 refine wS_end (by rfl) ?_
 refine eX_then ?_
 refine cW_cond (t := (wr (q1_0 - (((l0_0).length : Int)))) == 0) (by kernel_rfl) (fun hb1 => ?_) (fun hb1 => ?_)
 ·have hm := condT hb1 hm
  refine cW_seq ?_
  refine cW_drawnTail [] 5 (by kernel_rfl) (by kernel_rfl) (fun w1 hc1 => ?_)
  replace F0_0 := F0_0.chg hc1 Dj.nil
  replace F0 := F0.chg hc1 notNil
  replace F1 := F1.chg hc1 notNil
  replace F2_0 := F2_0.chg hc1 Dj.nil
  replace F2 := F2.chg hc1 notNil
  replace F3 := F3.chg hc1 notNil
  replace F4_0 := F4_0.chg hc1 Dj.nil
  replace F4 := F4.chg hc1 notNil
  replace F5 := F5.chg hc1 notNil
  replace F6 := F6.chg hc1 notNil
  replace hB := hB.inS hc1 inNil
  replace hZ := Nat.le_trans hZ hc1.size
  have hS := Chg.refl [] w1
  have Z1 := F0_0
  have Z2 := F0
  have Z3 := F1
  have Z4 := F2_0
  have Z5 := F2
  have Z6 := F3
  have Z7 := F4_0
  have Z8 := F4
  have Z9 := F5
  have Z10 := F6
  refine wH_load1 (i := 0) (d := 25) (T := 77) (ad := ⟨b2, 0, none⟩) (v := .slice A2_0 (l2_0).length cap2_0) (by kernel_rfl) (qT (qT (qT qZ))) (by kernel_rfl) (by kernel_rfl) vt77 (fun W hW => (Z5.chg hW notNil).cell 0) ?_
  refine wH_take [1] [1, 0] [(26, .int .i64 (x1))] (by kernel_rfl) (qT (qT (qT qZ))) (by kernel_rfl) ?_
  obtain ⟨x2, hx2, hm⟩ := bindE hm
  refine wH_idx (i := 2) (d := 27) (T := 77) (A := A2_0) (n := (l2_0).length) (cap := cap2_0) (kd := .i64) (m := x1) (by kernel_rfl) (qT (qT (qT qZ))) (by kernel_rfl) (by kernel_rfl) sl77 (F2_0.is hx2) ?_
  obtain ⟨A1, cap1, hc2, F7, K1⟩ := SlR.row Z4 hx2
  refine wH_load1 (i := 3) (d := 28) (T := 75) (ad := (elA A2_0 1 (x1) 0)) (v := .slice A1 (x2).length cap1) (by kernel_rfl) (qT (qT (qT qZ))) (by kernel_rfl) (by kernel_rfl) vt75 (fun W hW => hW.keep hc2) ?_
  refine wH_load1 (i := 4) (d := 29) (T := 3) (ad := ⟨b3, 0, none⟩) (v := .int .i64 (q3_0)) (by kernel_rfl) (qT (qT (qT qZ))) (by kernel_rfl) (by kernel_rfl) vt3 (fun W hW => (Z6.chg hW notNil).cell 0) ?_
  refine wH_done (by kernel_rfl) ?_
  refine eX_tail ?_
  obtain ⟨y1, hy1, hm⟩ := bindE hm
  refine wS_calls (d := 30) (f := 99) (vs := [.slice A1 (x2).length cap1, .int .i64 (q3_0)]) (by kernel_rfl) ent99 (c_slices_Contains_int_int hy1 F7) ?_
  rintro _ w2 ⟨rfl, hc3⟩
  replace F0_0 := F0_0.chg hc3 Dj.nil
  replace F0 := F0.chg hc3 notNil
  replace F1 := F1.chg hc3 notNil
  replace F2_0 := F2_0.chg hc3 Dj.nil
  replace F2 := F2.chg hc3 notNil
  replace F3 := F3.chg hc3 notNil
  replace F4_0 := F4_0.chg hc3 Dj.nil
  replace F4 := F4.chg hc3 notNil
  replace F5 := F5.chg hc3 notNil
  replace F6 := F6.chg hc3 notNil
  replace F7 := F7.chg hc3 Dj.nil
  replace hB := hB.inS hc3 inNil
  replace hZ := Nat.le_trans hZ hc3.size
  refine ⟨.bool (y1), rfl, ?_⟩
  refine wS_pure 1 [(7, .bool (y1))] (by kernel_rfl) ?_
  refine wS_end (by rfl) ?_
  refine eX_then ?_
  refine cW_prune [(7, .bool (y1))] (by kernel_rfl) (by kernel_rfl) (fun a1 => ?_)
  refine cW_ret ?_
  refine eX_then_ret ?_
  have hq : (some ((y1, l0_0)) : Option ((Bool) × (List (Int)))) = some _ := hm
  replace hq := someE hq
  subst hq
  refine eX_ret (vs := [.bool (y1)]) [.tmp 7] (by rfl) ⟨by (show lkE _ _ _ = _); kernel_rfl, trivial⟩ ?_
  exact ⟨A0_0, cap0_0, fp0_0, rfl, F0, F0_0, Rt.refl, hB⟩
 ·have hm := condF hb1 hm
  refine cW_skip ?_
  refine eX_then ?_
  refine cW_seq ?_
  refine cW_seq ?_
  refine cW_region ?_
  refine wS_load1 (d := 31) (T := 77) (ad := ⟨b2, 0, none⟩) (v := .slice A2_0 (l2_0).length cap2_0) (by kernel_rfl) vt77 ((F2).cell 0) ?_
  refine wS_pure 1 [(32, .int .i64 (x1))] (by kernel_rfl) ?_
  obtain ⟨x3, hx3, hm⟩ := bindE hm
  refine wS_idx (d := 33) (T := 77) (A := A2_0) (n := (l2_0).length) (cap := cap2_0) (kd := .i64) (m := x1) (by kernel_rfl) sl77 (F2_0.is hx3) ?_
  obtain ⟨A3, cap3, hc4, F8, K2⟩ := SlR.row F2_0 hx3
  refine wS_load1 (d := 34) (T := 75) (ad := (elA A2_0 1 (x1) 0)) (v := .slice A3 (x3).length cap3) (by kernel_rfl) vt75 hc4 ?_
  refine wS_pure 2 [(36, .int .i64 (0)), (35, .int .i64 (((x3).length : Int)))] (by kernel_rfl) ?_
  refine wS_end (by rfl) ?_
  refine eX_then ?_
  refine cW_prune [(0, .pointer (some ⟨b0, 0, none⟩)), (4, .pointer (some ⟨b4, 0, none⟩)), (5, .pointer (some ⟨b5, 0, none⟩)), (6, .pointer (some ⟨b6, 0, none⟩)), (9, .int .i64 (wr (q1_0 - (((l0_0).length : Int))))), (34, .slice A3 (x3).length cap3), (35, .int .i64 (((x3).length : Int))), (36, .int .i64 (0))] (by kernel_rfl) (by kernel_rfl) (fun a2 => ?_)
  obtain ⟨r1, hr1, hm⟩ := bindE hm
  have hm1 := hm
  refine cW_cut (fun a' w' => ∃ l1 : List (Int), ∃ A4 : Option Addr, ∃ cap4 : Nat, ∃ fp1 : List Nat, Sum.inl l1 = r1 ∧ Fr 73 [] a' ∧ Cl w' b0 75 [.slice A4 (l1).length cap4] ∧ Ow 1 encI 3 w' fp1 A4 cap4 l1 ∧ Rt w0.heap.size fp0_0 fp1 ∧ Dj [b0] fp1 ∧ Chg ([b0] ++ (fp0_0 ++ [])) w0 w' ∧ w0.heap.size ≤ w'.heap.size) ?_ ?_
  ·refine cW_block ?_
   refine cW_loop _ (fun (s1 : Int × (List (Int))) a' w' => ∃ x4 : Int, ∃ l3 : List (Int), ∃ A5 : Option Addr, ∃ cap5 : Nat, ∃ fp2 : List Nat, (x4, l3) = s1 ∧ Fr 73 [(0, .pointer (some ⟨b0, 0, none⟩)), (4, .pointer (some ⟨b4, 0, none⟩)), (5, .pointer (some ⟨b5, 0, none⟩)), (6, .pointer (some ⟨b6, 0, none⟩)), (9, .int .i64 (wr (q1_0 - (((l0_0).length : Int))))), (34, .slice A3 (x3).length cap3), (35, .int .i64 (((x3).length : Int))), (36, .int .i64 (x4))] a' ∧ Cl w' b0 75 [.slice A5 (l3).length cap5] ∧ Cl w' b1 3 [.int .i64 (q1_0)] ∧ SlR 1 encI w' fp2_0 A2_0 l2_0 ∧ Cl w' b2 77 [.slice A2_0 (l2_0).length cap2_0] ∧ Cl w' b3 3 [.int .i64 (q3_0)] ∧ Sl 1 encI w' fp4_0 A4_0 l4_0 ∧ Cl w' b4 75 [.slice A4_0 (l4_0).length cap4_0] ∧ Cl w' b5 3 [.int .i64 (q5_0)] ∧ Cl w' b6 127 [.func (.func 98) #[] #[.pointer (some ⟨b0, 0, none⟩), .pointer (some ⟨b1, 0, none⟩), .pointer (some ⟨b2, 0, none⟩), .pointer (some ⟨b3, 0, none⟩), .pointer (some ⟨b4, 0, none⟩), .pointer (some ⟨b5, 0, none⟩), .pointer (some ⟨b6, 0, none⟩)]] ∧ Sl 1 encI w' fp2_0 A3 x3 ∧ Ow 1 encI 3 w' fp2 A5 cap5 l3 ∧ Rt w0.heap.size fp0_0 fp2 ∧ Dj [b0] fp2 ∧ Dj [b1] fp2 ∧ Dj fp2_0 fp2 ∧ Dj [b2] fp2 ∧ Dj [b3] fp2 ∧ Dj fp4_0 fp2 ∧ Dj [b4] fp2 ∧ Dj [b5] fp2 ∧ Dj [b6] fp2 ∧ Dj fp2_0 fp2 ∧ Chg ([b0] ++ (fp0_0 ++ [])) w0 w' ∧ w0.heap.size ≤ w'.heap.size) hr1 (fun hst => ⟨0, l0_0, A0_0, cap0_0, fp0_0, rfl, Fr.of hst (by kernel_rfl), F0, F1, F2_0, F2, F3, F4_0, F4, F5, F6, F8, F0_0, Rt.refl, J0__0_0, (J0_0__1).symm, (J0_0__2_0).symm, (J0_0__2).symm, (J0_0__3).symm, (J0_0__4_0).symm, (J0_0__4).symm, (J0_0__5).symm, (J0_0__6).symm, (J0_0__2_0).symm, hB, hZ⟩) ?_
   rintro _ c1 a' w3 ⟨x4, l3, A5, cap5, fp2, rfl, hF1, F9, F10, F11, F12, F13, F14, F15, F16, F17, F18, F19, hap1, D1, D2, D3, D4, D5, D6, D7, D8, D9, D10, hB, hZ⟩ hx4
   refine Fr.goOn hF1 (by kernel_rfl) ?_
   have hm := hx4
   unfold m_impl_graph_oddRing_1_bint_bint_bimplgraph_bint_bint_bint_bfuncbool_self_s1 at hm
   refine cW_seq ?_
   refine cW_region ?_
   refine wS_pure 1 [(37, .bool (decide (x4 < (((x3).length : Int)))))] (by kernel_rfl) ?_
   refine wS_end (by rfl) ?_
   refine eX_then ?_
   refine cW_seq ?_
   refine cW_cond (t := decide (x4 < (((x3).length : Int)))) (by kernel_rfl) (fun hb2 => ?_) (fun hb2 => ?_)
   ·have hm := condT hb2 hm
    refine cW_skip ?_
    refine eX_then ?_
    refine cW_seq ?_
    refine cW_block ?_
    refine cW_seq ?_
    refine cW_region ?_
    obtain ⟨x5, hx5, hm⟩ := bindE hm
    refine wS_idx (d := 38) (T := 75) (A := A3) (n := (x3).length) (cap := cap3) (kd := .i64) (m := x4) (by kernel_rfl) sl75 (F18.is hx5) ?_
    refine wS_load1 (d := 39) (T := 3) (ad := (elA A3 1 (x4) 0)) (v := .int .i64 (x5)) (by kernel_rfl) vt3 (Sl.cell F18 hx5 0 (by rfl)) ?_
    refine wS_pure 1 [(11, .int .i64 (x5))] (by kernel_rfl) ?_
    refine wS_end (by rfl) ?_
    refine eX_then ?_
    refine cW_seq ?_
    refine cW_region ?_
    refine wS_load1 (d := 40) (T := 75) (ad := ⟨b4, 0, none⟩) (v := .slice A4_0 (l4_0).length cap4_0) (by kernel_rfl) vt75 ((F15).cell 0) ?_
    refine wS_pure 3 [(43, .int .i64 (Int.tmod (wr (q1_0 - (((l0_0).length : Int)))) 2)), (42, .int .i64 (wr (q1_0 - (((l0_0).length : Int))))), (41, .int .i64 (x5))] (by kernel_rfl) ?_
    refine wS_load1 (d := 44) (T := 3) (ad := ⟨b5, 0, none⟩) (v := .int .i64 (q5_0)) (by kernel_rfl) vt3 ((F16).cell 0) ?_
    refine wS_pure 2 [(46, .int .i64 (wr (x5 + (wr ((Int.tmod (wr (q1_0 - (((l0_0).length : Int)))) 2) * q5_0))))), (45, .int .i64 (wr ((Int.tmod (wr (q1_0 - (((l0_0).length : Int)))) 2) * q5_0)))] (by kernel_rfl) ?_
    obtain ⟨x6, hx6, hm⟩ := bindE hm
    refine wS_idx (d := 47) (T := 75) (A := A4_0) (n := (l4_0).length) (cap := cap4_0) (kd := .i64) (m := wr (x5 + (wr ((Int.tmod (wr (q1_0 - (((l0_0).length : Int)))) 2) * q5_0)))) (by kernel_rfl) sl75 (F14.is hx6) ?_
    refine wS_load1 (d := 48) (T := 3) (ad := (elA A4_0 1 (wr (x5 + (wr ((Int.tmod (wr (q1_0 - (((l0_0).length : Int)))) 2) * q5_0)))) 0)) (v := .int .i64 (x6)) (by kernel_rfl) vt3 (Sl.cell F14 hx6 0 (by rfl)) ?_
    refine wS_pure 1 [(12, .int .i64 (x6))] (by kernel_rfl) ?_
    refine wS_end (by rfl) ?_
    refine eX_then ?_
    refine cW_seq ?_
    refine cW_seq ?_
    refine cW_region ?_
    refine wS_load1 (d := 49) (T := 75) (ad := ⟨b0, 0, none⟩) (v := .slice A5 (l3).length cap5) (by kernel_rfl) vt75 ((F9).cell 0) ?_
    refine wS_pure 1 [(50, .int .i64 (x5))] (by kernel_rfl) ?_
    obtain ⟨y2, hy2, hm⟩ := bindE hm
    refine wS_calls (d := 51) (f := 99) (vs := [.slice A5 (l3).length cap5, .int .i64 (x5)]) (by kernel_rfl) ent99 (c_slices_Contains_int_int hy2 (F19.sl encI_ok)) ?_
    rintro _ w4 ⟨rfl, hc5⟩
    replace F9 := F9.chg hc5 notNil
    replace F10 := F10.chg hc5 notNil
    replace F11 := F11.chg hc5 Dj.nil
    replace F12 := F12.chg hc5 notNil
    replace F13 := F13.chg hc5 notNil
    replace F14 := F14.chg hc5 Dj.nil
    replace F15 := F15.chg hc5 notNil
    replace F16 := F16.chg hc5 notNil
    replace F17 := F17.chg hc5 notNil
    replace F18 := F18.chg hc5 Dj.nil
    replace F19 := F19.chg hc5 Dj.nil
    replace hB := hB.inS hc5 inNil
    replace hZ := Nat.le_trans hZ hc5.size
    refine ⟨.bool (y2), rfl, ?_⟩
    refine wS_pure 1 [(52, .bool (y2))] (by kernel_rfl) ?_
    refine wS_bool y2 (fun hb3 => ?_) (fun hb3 => ?_)
    ·have hm := condT hb3 hm
     rewrite [hb3]
     refine wS_pure 8 [(60, .bool (true)), (59, undef), (58, undef), (57, undef), (56, .bool (true)), (55, .bool (true)), (54, undef), (53, undef)] (by kernel_rfl) ?_
     refine wS_end (by rfl) ?_
     refine eX_then ?_
     refine cW_prune [(0, .pointer (some ⟨b0, 0, none⟩)), (4, .pointer (some ⟨b4, 0, none⟩)), (5, .pointer (some ⟨b5, 0, none⟩)), (6, .pointer (some ⟨b6, 0, none⟩)), (9, .int .i64 (wr (q1_0 - (((l0_0).length : Int))))), (11, .int .i64 (x5)), (34, .slice A3 (x3).length cap3), (35, .int .i64 (((x3).length : Int))), (36, .int .i64 (x4)), (60, .bool (true))] (by kernel_rfl) (by kernel_rfl) (fun a3 => ?_)
     refine cW_cond_t (by kernel_rfl) ?_
     refine cW_exit ?_
     refine eX_then_exit ?_
     refine eX_block_hit ?_
     refine eX_then ?_
     refine cW_region ?_
     refine wS_pure 2 [(36, .int .i64 (wr (x4 + 1))), (72, .int .i64 (wr (x4 + 1)))] (by kernel_rfl) ?_
     refine wS_end (by rfl) ?_
     have hq : (some (Ctl.next ((wr (x4 + 1), l3))) : Option (Ctl (Int × (List (Int))) (Sum ((List (Int))) ((Bool) × (List (Int)))))) = some _ := hm
     replace hq := someE hq
     subst hq
     exact eX_next hx4 (fun hst => ⟨wr (x4 + 1), l3, A5, cap5, fp2, rfl, Fr.of hst (by kernel_rfl), F9, F10, F11, F12, F13, F14, F15, F16, F17, F18, F19, hap1, D1, D2, D3, D4, D5, D6, D7, D8, D9, D10, hB, hZ⟩)
    ·have hm := condF hb3 hm
     rewrite [hb3]
     refine wS_pure 4 [(56, .bool (decide (x6 < 0))), (55, .bool (decide (x6 < 0))), (54, .bool (decide (x6 < 0))), (53, .int .i64 (x6))] (by kernel_rfl) ?_
     refine wS_bool (decide (x6 < 0)) (fun hb4 => ?_) (fun hb4 => ?_)
     ·have hm := condT hb4 hm
      rewrite [hb4]
      refine wS_pure 4 [(60, .bool (true)), (59, undef), (58, undef), (57, undef)] (by kernel_rfl) ?_
      refine wS_end (by rfl) ?_
      refine eX_then ?_
      refine cW_prune [(0, .pointer (some ⟨b0, 0, none⟩)), (4, .pointer (some ⟨b4, 0, none⟩)), (5, .pointer (some ⟨b5, 0, none⟩)), (6, .pointer (some ⟨b6, 0, none⟩)), (9, .int .i64 (wr (q1_0 - (((l0_0).length : Int))))), (11, .int .i64 (x5)), (34, .slice A3 (x3).length cap3), (35, .int .i64 (((x3).length : Int))), (36, .int .i64 (x4)), (60, .bool (true))] (by kernel_rfl) (by kernel_rfl) (fun a4 => ?_)
      refine cW_cond_t (by kernel_rfl) ?_
      refine cW_exit ?_
      refine eX_then_exit ?_
      refine eX_block_hit ?_
      refine eX_then ?_
      refine cW_region ?_
      refine wS_pure 2 [(36, .int .i64 (wr (x4 + 1))), (72, .int .i64 (wr (x4 + 1)))] (by kernel_rfl) ?_
      refine wS_end (by rfl) ?_
      have hq : (some (Ctl.next ((wr (x4 + 1), l3))) : Option (Ctl (Int × (List (Int))) (Sum ((List (Int))) ((Bool) × (List (Int)))))) = some _ := hm
      replace hq := someE hq
      subst hq
      exact eX_next hx4 (fun hst => ⟨wr (x4 + 1), l3, A5, cap5, fp2, rfl, Fr.of hst (by kernel_rfl), F9, F10, F11, F12, F13, F14, F15, F16, F17, F18, F19, hap1, D1, D2, D3, D4, D5, D6, D7, D8, D9, D10, hB, hZ⟩)
     ·have hm := condF hb4 hm
      rewrite [hb4]
      refine wS_pure 4 [(60, .bool (decide (x6 > (wr (q1_0 - (((l0_0).length : Int))))))), (59, .bool (decide (x6 > (wr (q1_0 - (((l0_0).length : Int))))))), (58, .int .i64 (wr (q1_0 - (((l0_0).length : Int))))), (57, .int .i64 (x6))] (by kernel_rfl) ?_
      refine wS_end (by rfl) ?_
      refine eX_then ?_
      refine cW_prune [(0, .pointer (some ⟨b0, 0, none⟩)), (4, .pointer (some ⟨b4, 0, none⟩)), (5, .pointer (some ⟨b5, 0, none⟩)), (6, .pointer (some ⟨b6, 0, none⟩)), (9, .int .i64 (wr (q1_0 - (((l0_0).length : Int))))), (11, .int .i64 (x5)), (34, .slice A3 (x3).length cap3), (35, .int .i64 (((x3).length : Int))), (36, .int .i64 (x4)), (60, .bool (decide (x6 > (wr (q1_0 - (((l0_0).length : Int)))))))] (by kernel_rfl) (by kernel_rfl) (fun a5 => ?_)
      refine cW_cond (t := decide (x6 > (wr (q1_0 - (((l0_0).length : Int)))))) (by kernel_rfl) (fun hb5 => ?_) (fun hb5 => ?_)
      ·have hm := condT hb5 hm
       refine cW_exit ?_
       refine eX_then_exit ?_
       refine eX_block_hit ?_
       refine eX_then ?_
       refine cW_region ?_
       refine wS_pure 2 [(36, .int .i64 (wr (x4 + 1))), (72, .int .i64 (wr (x4 + 1)))] (by kernel_rfl) ?_
       refine wS_end (by rfl) ?_
       have hq : (some (Ctl.next ((wr (x4 + 1), l3))) : Option (Ctl (Int × (List (Int))) (Sum ((List (Int))) ((Bool) × (List (Int)))))) = some _ := hm
       replace hq := someE hq
       subst hq
       exact eX_next hx4 (fun hst => ⟨wr (x4 + 1), l3, A5, cap5, fp2, rfl, Fr.of hst (by kernel_rfl), F9, F10, F11, F12, F13, F14, F15, F16, F17, F18, F19, hap1, D1, D2, D3, D4, D5, D6, D7, D8, D9, D10, hB, hZ⟩)
      ·have hm := condF hb5 hm
       refine cW_skip ?_
       refine eX_then ?_
       refine cW_seq ?_
       refine cW_region ?_
       refine wS_load1 (d := 61) (T := 75) (ad := ⟨b0, 0, none⟩) (v := .slice A5 (l3).length cap5) (by kernel_rfl) vt75 ((F9).cell 0) ?_
       refine wS_pure 1 [(62, .int .i64 (x5))] (by kernel_rfl) ?_
       refine wS_bs (enc := encI) ([x5] : List (Int)) [.int .i64 (x5)] (d := 63) (t := 75) (T := 3) (n := 1) (ps := [(0, .int .i64 (x5))]) (by kernel_rfl) el75 encI_ok (by rfl) (by omega) (by omega) (by kernel_rfl) (by rfl) ?_
       intro b7 w5 G1 F20 hc6
       have D11 : Dj fp2 [b7] := Dj.of F19.low (low1 G1)
       replace F9 := F9.chg hc6 notNil
       replace F10 := F10.chg hc6 notNil
       replace F11 := F11.chg hc6 Dj.nil
       replace F12 := F12.chg hc6 notNil
       replace F13 := F13.chg hc6 notNil
       replace F14 := F14.chg hc6 Dj.nil
       replace F15 := F15.chg hc6 notNil
       replace F16 := F16.chg hc6 notNil
       replace F17 := F17.chg hc6 notNil
       replace F18 := F18.chg hc6 Dj.nil
       replace F19 := F19.chg hc6 Dj.nil
       replace hB := hB.inS hc6 inNil
       replace G1 := Nat.le_trans hZ G1
       replace G1 := low1 G1
       replace hZ := Nat.le_trans hZ hc6.size
       obtain ⟨_, hk1, hm⟩ := bindE hm
       replace hk1 := apE hk1
       refine wS_append (enc := encI) (l := (l3 : List (Int))) (l2 := (([x5] : List (Int)) : List (Int))) (d := 64) (t := 75) (T := 3) (A := A5) (A2 := (some ⟨b7, 0, none⟩)) (cap := cap5) (cap2 := 1) (by kernel_rfl) el75 encI_ok F19 (F20.sl encI_ok) (by rfl) hk1 ?_
       intro w6 fp3 A6 cap6 F21 hc7 hp1
       have hap2 := Rt.of hp1 hZ hap1
       have D12 : Dj [b0] fp3 := Dj.ap D1 (lt1 F9.lt) hp1
       have D13 : Dj [b1] fp3 := Dj.ap D2 (lt1 F10.lt) hp1
       have D14 : Dj fp2_0 fp3 := Dj.ap D3 F11.low hp1
       have D15 : Dj [b2] fp3 := Dj.ap D4 (lt1 F12.lt) hp1
       have D16 : Dj [b3] fp3 := Dj.ap D5 (lt1 F13.lt) hp1
       have D17 : Dj fp4_0 fp3 := Dj.ap D6 F14.low hp1
       have D18 : Dj [b4] fp3 := Dj.ap D7 (lt1 F15.lt) hp1
       have D19 : Dj [b5] fp3 := Dj.ap D8 (lt1 F16.lt) hp1
       have D20 : Dj [b6] fp3 := Dj.ap D9 (lt1 F17.lt) hp1
       have D21 : Dj fp2_0 fp3 := Dj.ap D10 F18.low hp1
       have D22 : Dj [b7] fp3 := Dj.ap (D11).symm F20.low hp1
       replace F9 := F9.chg hc7 (dj1 D1)
       replace F10 := F10.chg hc7 (dj1 D2)
       replace F11 := F11.chg hc7 D3
       replace F12 := F12.chg hc7 (dj1 D4)
       replace F13 := F13.chg hc7 (dj1 D5)
       replace F14 := F14.chg hc7 D6
       replace F15 := F15.chg hc7 (dj1 D7)
       replace F16 := F16.chg hc7 (dj1 D8)
       replace F17 := F17.chg hc7 (dj1 D9)
       replace F18 := F18.chg hc7 D10
       replace F20 := F20.chg hc7 (D11).symm
       replace hB := hB.inS hc7 (inRt hap1 (fun x hx => (List.mem_append_right _ (List.mem_append_left _ hx))))
       replace hZ := Nat.le_trans hZ hc7.size
       refine wS_store (T := 75) (g := b0) (o := 0) (ad := ⟨b0, 0, none⟩) (v := .slice A6 (l3 ++ (([x5] : List (Int)))).length cap6) (vs := [.slice A6 (l3 ++ (([x5] : List (Int)))).length cap6]) (by kernel_rfl) (by rfl) sz75 (by rfl) (by rfl) F9 (by simp only [List.length_cons, List.length_nil]; omega) ?_
       intro w7 F22 hc8
       replace F10 := F10.chg hc8 (dj1 (J0__1).symm)
       replace F11 := F11.chg hc8 (J0__2_0).symm
       replace F12 := F12.chg hc8 (dj1 (J0__2).symm)
       replace F13 := F13.chg hc8 (dj1 (J0__3).symm)
       replace F14 := F14.chg hc8 (J0__4_0).symm
       replace F15 := F15.chg hc8 (dj1 (J0__4).symm)
       replace F16 := F16.chg hc8 (dj1 (J0__5).symm)
       replace F17 := F17.chg hc8 (dj1 (J0__6).symm)
       replace F18 := F18.chg hc8 (J0__2_0).symm
       replace F20 := F20.chg hc8 (Dj.of L0 G1).symm
       replace F21 := F21.chg hc8 (D12).symm
       replace hB := hB.inS hc8 (inMem (fun x hx => (List.mem_append_left _ hx)))
       replace hZ := Nat.le_trans hZ hc8.size
       replace F22 : Cl w7 b0 75 [.slice A6 (l3 ++ (([x5] : List (Int)))).length cap6] := F22
       clear F9
       refine wS_end (by rfl) ?_
       refine eX_then ?_
       refine cW_seq ?_
       refine cW_seq ?_
       refine cW_region ?_
       refine wS_load1 (d := 65) (T := 127) (ad := ⟨b6, 0, none⟩) (v := .func (.func 98) #[] #[.pointer (some ⟨b0, 0, none⟩), .pointer (some ⟨b1, 0, none⟩), .pointer (some ⟨b2, 0, none⟩), .pointer (some ⟨b3, 0, none⟩), .pointer (some ⟨b4, 0, none⟩), .pointer (some ⟨b5, 0, none⟩), .pointer (some ⟨b6, 0, none⟩)]) (by kernel_rfl) vt127 ((F17).cell 0) ?_
       obtain ⟨y3, hy3, hm⟩ := bindE hm
       refine wS_calls (d := 66) (f := 98) (vs := [.pointer (some ⟨b0, 0, none⟩), .pointer (some ⟨b1, 0, none⟩), .pointer (some ⟨b2, 0, none⟩), .pointer (some ⟨b3, 0, none⟩), .pointer (some ⟨b4, 0, none⟩), .pointer (some ⟨b5, 0, none⟩), .pointer (some ⟨b6, 0, none⟩)]) (by kernel_rfl) ent98 (hR hy3 F21 F22 F10 F11 F12 F13 F14 F15 F16 F17 D12 J0__1 J0__2_0 J0__2 J0__3 J0__4_0 J0__4 J0__5 J0__6 (D13).symm (D14).symm (D15).symm (D16).symm (D17).symm (D18).symm (D19).symm (D20).symm) ?_
       rintro _ w8 ⟨A7, cap7, fp4, rfl, F23, F24, hap3, hc9⟩
       have hap4 := Rt.of hap3 hZ hap2
       have D23 : Dj [b0] fp4 := Dj.ap D12 (lt1 F22.lt) hap3
       have D24 : Dj [b1] fp4 := Dj.ap D13 (lt1 F10.lt) hap3
       have D25 : Dj fp2_0 fp4 := Dj.ap D14 F11.low hap3
       have D26 : Dj [b2] fp4 := Dj.ap D15 (lt1 F12.lt) hap3
       have D27 : Dj [b3] fp4 := Dj.ap D16 (lt1 F13.lt) hap3
       have D28 : Dj fp4_0 fp4 := Dj.ap D17 F14.low hap3
       have D29 : Dj [b4] fp4 := Dj.ap D18 (lt1 F15.lt) hap3
       have D30 : Dj [b5] fp4 := Dj.ap D19 (lt1 F16.lt) hap3
       have D31 : Dj [b6] fp4 := Dj.ap D20 (lt1 F17.lt) hap3
       have D32 : Dj fp2_0 fp4 := Dj.ap D21 F18.low hap3
       have D33 : Dj [b7] fp4 := Dj.ap D22 F20.low hap3
       replace F10 := F10.chg hc9 (dj1 (Dj.app (J0__1).symm (Dj.app D13 Dj.nil)))
       replace F11 := F11.chg hc9 (Dj.app (J0__2_0).symm (Dj.app D14 Dj.nil))
       replace F12 := F12.chg hc9 (dj1 (Dj.app (J0__2).symm (Dj.app D15 Dj.nil)))
       replace F13 := F13.chg hc9 (dj1 (Dj.app (J0__3).symm (Dj.app D16 Dj.nil)))
       replace F14 := F14.chg hc9 (Dj.app (J0__4_0).symm (Dj.app D17 Dj.nil))
       replace F15 := F15.chg hc9 (dj1 (Dj.app (J0__4).symm (Dj.app D18 Dj.nil)))
       replace F16 := F16.chg hc9 (dj1 (Dj.app (J0__5).symm (Dj.app D19 Dj.nil)))
       replace F17 := F17.chg hc9 (dj1 (Dj.app (J0__6).symm (Dj.app D20 Dj.nil)))
       replace F18 := F18.chg hc9 (Dj.app (J0__2_0).symm (Dj.app D21 Dj.nil))
       replace F20 := F20.chg hc9 (Dj.app (Dj.of L0 G1).symm (Dj.app D22 Dj.nil))
       replace hB := hB.inS hc9 (inApp (inMem (fun x hx => (List.mem_append_left _ hx))) (inApp (inRt hap2 (fun x hx => (List.mem_append_right _ (List.mem_append_left _ hx)))) inNil))
       replace hZ := Nat.le_trans hZ hc9.size
       clear F22
       refine ⟨.bool (y3.1), rfl, ?_⟩
       refine wS_end (by rfl) ?_
       refine eX_then ?_
       refine cW_cond (t := y3.1) (by kernel_rfl) (fun hb6 => ?_) (fun hb6 => ?_)
       ·have hm := condT hb6 hm
        refine cW_seq ?_
        refine cW_region ?_
        refine wS_pure 1 [(7, .bool (true))] (by kernel_rfl) ?_
        refine wS_end (by rfl) ?_
        refine eX_then ?_
        refine cW_ret ?_
        refine eX_then_ret ?_
        refine eX_block_ret ?_
        refine eX_then_ret ?_
        have hq : (some (Ctl.out (Sum.inr ((true, y3.2)))) : Option (Ctl (Int × (List (Int))) (Sum ((List (Int))) ((Bool) × (List (Int)))))) = some _ := hm
        replace hq := someE hq
        subst hq
        refine eX_outR hx4 (fun hr => ?_)
        subst hr
        refine eX_block_ret ?_
        refine eX_then_ret ?_
        refine eX_then_ret ?_
        have hq : (some ((true, y3.2)) : Option ((Bool) × (List (Int)))) = some _ := hm1
        replace hq := someE hq
        subst hq
        refine eX_ret (vs := [.bool (true)]) [.tmp 7] (by rfl) ⟨by (show lkE _ _ _ = _); kernel_rfl, trivial⟩ ?_
        exact ⟨A7, cap7, fp4, rfl, F23, F24, hap4, hB⟩
       ·have hm := condF hb6 hm
        refine cW_skip ?_
        refine eX_then ?_
        refine cW_region ?_
        refine wS_load1 (d := 67) (T := 75) (ad := ⟨b0, 0, none⟩) (v := .slice A7 (y3.2).length cap7) (by kernel_rfl) vt75 ((F23).cell 0) ?_
        refine wS_load1 (d := 68) (T := 75) (ad := ⟨b0, 0, none⟩) (v := .slice A7 (y3.2).length cap7) (by kernel_rfl) vt75 ((F23).cell 0) ?_
        refine wS_pure 2 [(70, .int .i64 (wr ((((y3.2).length : Int)) - 1))), (69, .int .i64 (((y3.2).length : Int)))] (by kernel_rfl) ?_
        obtain ⟨y4, hy4, hm⟩ := bindE hm
        refine wS_prefix (k := 1) (enc := encI) (U := 3) (l := y3.2) (d := 71) (T := 75) (A := A7) (cap := cap7) (hi := wr ((((y3.2).length : Int)) - 1)) (by kernel_rfl) sl75 encI_ok F24 F24.cap_le hy4 ?_
        intro hpe F25
        subst hpe
        refine wS_store (T := 75) (g := b0) (o := 0) (ad := ⟨b0, 0, none⟩) (v := .slice A7 (y3.2.take (Int.toNat (wr ((((y3.2).length : Int)) - 1)))).length cap7) (vs := [.slice A7 (y3.2.take (Int.toNat (wr ((((y3.2).length : Int)) - 1)))).length cap7]) (by kernel_rfl) (by rfl) sz75 (by rfl) (by rfl) F23 (by simp only [List.length_cons, List.length_nil]; omega) ?_
        intro w9 F26 hc10
        replace F10 := F10.chg hc10 (dj1 (J0__1).symm)
        replace F11 := F11.chg hc10 (J0__2_0).symm
        replace F12 := F12.chg hc10 (dj1 (J0__2).symm)
        replace F13 := F13.chg hc10 (dj1 (J0__3).symm)
        replace F14 := F14.chg hc10 (J0__4_0).symm
        replace F15 := F15.chg hc10 (dj1 (J0__4).symm)
        replace F16 := F16.chg hc10 (dj1 (J0__5).symm)
        replace F17 := F17.chg hc10 (dj1 (J0__6).symm)
        replace F18 := F18.chg hc10 (J0__2_0).symm
        replace F20 := F20.chg hc10 (Dj.of L0 G1).symm
        replace F25 := F25.chg hc10 (D23).symm
        replace hB := hB.inS hc10 (inMem (fun x hx => (List.mem_append_left _ hx)))
        replace hZ := Nat.le_trans hZ hc10.size
        replace F26 : Cl w9 b0 75 [.slice A7 (y3.2.take (Int.toNat (wr ((((y3.2).length : Int)) - 1)))).length cap7] := F26
        clear F23
        refine wS_end (by rfl) ?_
        refine eX_block ?_
        refine eX_then ?_
        refine cW_region ?_
        refine wS_pure 2 [(36, .int .i64 (wr (x4 + 1))), (72, .int .i64 (wr (x4 + 1)))] (by kernel_rfl) ?_
        refine wS_end (by rfl) ?_
        have hq : (some (Ctl.next ((wr (x4 + 1), y3.2.take (Int.toNat (wr ((((y3.2).length : Int)) - 1)))))) : Option (Ctl (Int × (List (Int))) (Sum ((List (Int))) ((Bool) × (List (Int)))))) = some _ := hm
        replace hq := someE hq
        subst hq
        exact eX_next hx4 (fun hst => ⟨wr (x4 + 1), y3.2.take (Int.toNat (wr ((((y3.2).length : Int)) - 1))), A7, cap7, fp4, rfl, Fr.of hst (by kernel_rfl), F26, F10, F11, F12, F13, F14, F15, F16, F17, F18, F25, hap4, D23, D24, D25, D26, D27, D28, D29, D30, D31, D32, hB, hZ⟩)
   ·have hm := condF hb2 hm
    refine cW_exit ?_
    refine eX_then_exit ?_
    have hq : (some (Ctl.out (Sum.inl l3)) : Option (Ctl (Int × (List (Int))) (Sum ((List (Int))) ((Bool) × (List (Int)))))) = some _ := hm
    replace hq := someE hq
    subst hq
    refine eX_outX hx4 (fun hr2 => ?_)
    replace hr2 := hr2.symm
    subst hr2
    refine eX_block_hit ?_
    exact eX_J (fun hst => ⟨l3, A5, cap5, fp2, rfl, Fr.of hst (by kernel_rfl), F9, F19, hap1, D1, hB, hZ⟩)
  ·rintro a' w10 ⟨l1, A4, cap4, fp1, hJ, hF2, F27, F28, hap5, D34, hB, hZ⟩
   subst hJ
   refine Fr.goX hF2 (by kernel_rfl) ?_
   refine eX_then ?_
   refine cW_seq ?_
   refine cW_region ?_
   refine wS_pure 1 [(7, .bool (false))] (by kernel_rfl) ?_
   refine wS_end (by rfl) ?_
   refine eX_then ?_
   refine cW_ret ?_
   have hq : (some ((false, l1)) : Option ((Bool) × (List (Int)))) = some _ := hm
   replace hq := someE hq
   subst hq
   refine eX_ret (vs := [.bool (false)]) [.tmp 7] (by rfl) ⟨by (show lkE _ _ _ = _); kernel_rfl, trivial⟩ ?_
   exact ⟨A4, cap4, fp1, rfl, F27, F28, hap5, hB⟩
set_option maxRecDepth 100000 in
theorem c_impl_graph_oddRing_1_bint_bint_bimplgraph_bint_bint_bint_bfuncbool_self (n : Nat) : ∀ {w0 : World} {l0_0 : List (Int)} {A0_0 : Option Addr} {cap0_0 : Nat} {fp0_0 : List Nat} {b0 : Nat} {q1_0 : Int} {b1 : Nat} {l2_0 : List (List (Int))} {A2_0 : Option Addr} {cap2_0 : Nat} {fp2_0 : List Nat} {b2 : Nat} {q3_0 : Int} {b3 : Nat} {l4_0 : List (Int)} {A4_0 : Option Addr} {cap4_0 : Nat} {fp4_0 : List Nat} {b4 : Nat} {q5_0 : Int} {b5 : Nat} {b6 : Nat} {r : (Bool) × (List (Int))} (hm : m_impl_graph_oddRing_1_bint_bint_bimplgraph_bint_bint_bint_bfuncbool_self n l0_0 q1_0 l2_0 q3_0 l4_0 q5_0 = some r) (F0_0 : Ow 1 encI 3 w0 fp0_0 A0_0 cap0_0 l0_0) (F0 : Cl w0 b0 75 [.slice A0_0 (l0_0).length cap0_0]) (F1 : Cl w0 b1 3 [.int .i64 (q1_0)]) (F2_0 : SlR 1 encI w0 fp2_0 A2_0 l2_0) (F2 : Cl w0 b2 77 [.slice A2_0 (l2_0).length cap2_0]) (F3 : Cl w0 b3 3 [.int .i64 (q3_0)]) (F4_0 : Sl 1 encI w0 fp4_0 A4_0 l4_0) (F4 : Cl w0 b4 75 [.slice A4_0 (l4_0).length cap4_0]) (F5 : Cl w0 b5 3 [.int .i64 (q5_0)]) (F6 : Cl w0 b6 127 [.func (.func 98) #[] #[.pointer (some ⟨b0, 0, none⟩), .pointer (some ⟨b1, 0, none⟩), .pointer (some ⟨b2, 0, none⟩), .pointer (some ⟨b3, 0, none⟩), .pointer (some ⟨b4, 0, none⟩), .pointer (some ⟨b5, 0, none⟩), .pointer (some ⟨b6, 0, none⟩)]]) (J0__0_0 : Dj [b0] fp0_0) (J0__1 : Dj [b0] [b1]) (J0__2_0 : Dj [b0] fp2_0) (J0__2 : Dj [b0] [b2]) (J0__3 : Dj [b0] [b3]) (J0__4_0 : Dj [b0] fp4_0) (J0__4 : Dj [b0] [b4]) (J0__5 : Dj [b0] [b5]) (J0__6 : Dj [b0] [b6]) (J0_0__1 : Dj fp0_0 [b1]) (J0_0__2_0 : Dj fp0_0 fp2_0) (J0_0__2 : Dj fp0_0 [b2]) (J0_0__3 : Dj fp0_0 [b3]) (J0_0__4_0 : Dj fp0_0 fp4_0) (J0_0__4 : Dj fp0_0 [b4]) (J0_0__5 : Dj fp0_0 [b5]) (J0_0__6 : Dj fp0_0 [b6]), Calls Try.prog 98 #[.pointer (some ⟨b0, 0, none⟩), .pointer (some ⟨b1, 0, none⟩), .pointer (some ⟨b2, 0, none⟩), .pointer (some ⟨b3, 0, none⟩), .pointer (some ⟨b4, 0, none⟩), .pointer (some ⟨b5, 0, none⟩), .pointer (some ⟨b6, 0, none⟩)] w0 fun e w' => ∃ At0_0 capt0_0 fpt0_0, e = .returned (.bool (r.1)) ∧ Cl w' b0 75 [.slice At0_0 (r.2).length capt0_0] ∧ Ow 1 encI 3 w' fpt0_0 At0_0 capt0_0 r.2 ∧ Rt w0.heap.size fp0_0 fpt0_0 ∧ Chg ([b0] ++ (fp0_0 ++ [])) w0 w' := by
 induction n with
 | zero => intro w0 l0_0 A0_0 cap0_0 fp0_0 b0 q1_0 b1 l2_0 A2_0 cap2_0 fp2_0 b2 q3_0 b3 l4_0 A4_0 cap4_0 fp4_0 b4 q5_0 b5 b6 r hm F0_0 F0 F1 F2_0 F2 F3 F4_0 F4 F5 F6 J0__0_0 J0__1 J0__2_0 J0__2 J0__3 J0__4_0 J0__4 J0__5 J0__6 J0_0__1 J0_0__2_0 J0_0__2 J0_0__3 J0_0__4_0 J0_0__4 J0_0__5 J0_0__6; exact nomatch (show (none : Option ((Bool) × (List (Int)))) = some r from hm)
 | succ n ih => intro w0 l0_0 A0_0 cap0_0 fp0_0 b0 q1_0 b1 l2_0 A2_0 cap2_0 fp2_0 b2 q3_0 b3 l4_0 A4_0 cap4_0 fp4_0 b4 q5_0 b5 b6 r hm F0_0 F0 F1 F2_0 F2 F3 F4_0 F4 F5 F6 J0__0_0 J0__1 J0__2_0 J0__2 J0__3 J0__4_0 J0__4 J0__5 J0__6 J0_0__1 J0_0__2_0 J0_0__2 J0_0__3 J0_0__4_0 J0_0__4 J0_0__5 J0_0__6; exact c_impl_graph_oddRing_1_bint_bint_bimplgraph_bint_bint_bint_bfuncbool_self_body ih hm F0_0 F0 F1 F2_0 F2 F3 F4_0 F4 F5 F6 J0__0_0 J0__1 J0__2_0 J0__2 J0__3 J0__4_0 J0__4 J0__5 J0__6 J0_0__1 J0_0__2_0 J0_0__2 J0_0__3 J0_0__4_0 J0_0__4 J0_0__5 J0_0__6


set_option maxRecDepth 100000 in
/-- impl.graph).oddRing -/
theorem c_impl_graph_oddRing {w0 : World} {l0 : List (List (Int))} {A0 : Option Addr} {cap0 : Nat} {fp0 : List Nat} {r : (List (Int))} (hm : m_impl_graph_oddRing l0 = some r) (F0 : SlR 1 encI w0 fp0 A0 l0) :
  Calls Try.prog 56 #[.slice A0 (l0).length cap0] w0 fun e w' => ∃ A100 cap100 fp100, e = .returned (.slice A100 (r).length cap100) ∧ Ow 1 encI 3 w' fp100 A100 cap100 r ∧ (∀ x ∈ fp100, w0.heap.size ≤ x) ∧ Chg [] w0 w' := by
 have L0 := F0.low
 have hB : Chg [] w0 w0 := Chg.refl _ _
 have hZ := Nat.le_refl w0.heap.size
 unfold m_impl_graph_oddRing at hm
 refine enterE (N := 61) Try.func56 (by rfl) Try.ntmps56 (by simp) [(0, .slice A0 (l0).length cap0)] (by rfl) (by kernel_rfl) (fun a => ?_)
 refine cW_seq ?_
 refine cW_region ?_
 refine wS_box (d := 1) (T := 77) (x := .slice A0 (l0).length cap0) (by kernel_rfl) ?_
 intro b1 w1 G1 F1 hc1
 replace F1 : Cl w1 b1 77 [.slice A0 (l0).length cap0] := F1
 replace F0 := F0.chg hc1 Dj.nil
 replace hB := hB.inS hc1 inNil
 replace G1 := Nat.le_trans hZ G1
 replace hZ := Nat.le_trans hZ hc1.size
 refine wS_pure 1 [(2, .slice none 0 0)] (by kernel_rfl) ?_
 refine wS_end (by rfl) ?_
 refine eX_then ?_
 refine cW_seq ?_
 refine cW_region ?_
 refine wS_load1 (d := 12) (T := 77) (ad := ⟨b1, 0, none⟩) (v := .slice A0 (l0).length cap0) (by kernel_rfl) vt77 ((F1).cell 0) ?_
 refine wS_pure 1 [(13, .int .i64 (((l0).length : Int)))] (by kernel_rfl) ?_
 refine wS_alloc (d := 3) (T := 3) (z := .int .i64 (0)) (by kernel_rfl) (by kernel_rfl) ?_
 intro b2 w2 G2 F2 hc2
 replace F2 : Cl w2 b2 3 [.int .i64 (0)] := F2
 have D1 : Dj [b1] [b2] := Dj.of (lt1 F1.lt) (low1 G2)
 replace F0 := F0.chg hc2 Dj.nil
 replace F1 := F1.chg hc2 notNil
 replace hB := hB.inS hc2 inNil
 replace G2 := Nat.le_trans hZ G2
 replace hZ := Nat.le_trans hZ hc2.size
 refine wS_alloc (d := 4) (T := 3) (z := .int .i64 (0)) (by kernel_rfl) (by kernel_rfl) ?_
 intro b3 w3 G3 F3 hc3
 replace F3 : Cl w3 b3 3 [.int .i64 (0)] := F3
 have D2 : Dj [b1] [b3] := Dj.of (lt1 F1.lt) (low1 G3)
 have D3 : Dj [b2] [b3] := Dj.of (lt1 F2.lt) (low1 G3)
 replace F0 := F0.chg hc3 Dj.nil
 replace F1 := F1.chg hc3 notNil
 replace F2 := F2.chg hc3 notNil
 replace hB := hB.inS hc3 inNil
 replace G3 := Nat.le_trans hZ G3
 replace hZ := Nat.le_trans hZ hc3.size
 refine wS_store (T := 3) (g := b2) (o := 0) (ad := ⟨b2, 0, none⟩) (v := .int .i64 (((l0).length : Int))) (vs := [.int .i64 (((l0).length : Int))]) (by kernel_rfl) (by rfl) sz3 (by rfl) (by rfl) F2 (by simp only [List.length_cons, List.length_nil]; omega) ?_
 intro w4 F4 hc4
 replace F0 := F0.chg hc4 (Dj.of L0 (low1 G2))
 replace F1 := F1.chg hc4 (dj1 D1)
 replace F3 := F3.chg hc4 (dj1 (D3).symm)
 replace hB := hB.inS hc4 (inLow (low1 G2))
 replace hZ := Nat.le_trans hZ hc4.size
 replace F4 : Cl w4 b2 3 [.int .i64 (((l0).length : Int))] := F4
 clear F2
 refine wS_store (T := 3) (g := b3) (o := 0) (ad := ⟨b3, 0, none⟩) (v := .int .i64 (0)) (vs := [.int .i64 (0)]) (by kernel_rfl) (by rfl) sz3 (by rfl) (by rfl) F3 (by simp only [List.length_cons, List.length_nil]; omega) ?_
 intro w5 F5 hc5
 replace F0 := F0.chg hc5 (Dj.of L0 (low1 G3))
 replace F1 := F1.chg hc5 (dj1 D2)
 replace F4 := F4.chg hc5 (dj1 D3)
 replace hB := hB.inS hc5 (inLow (low1 G3))
 replace hZ := Nat.le_trans hZ hc5.size
 replace F5 : Cl w5 b3 3 [.int .i64 (0)] := F5
 clear F3
 refine wS_end (by rfl) ?_
 refine eX_then ?_
 refine cW_seq ?_
 refine cW_region ?_
 refine wS_load1 (d := 14) (T := 77) (ad := ⟨b1, 0, none⟩) (v := .slice A0 (l0).length cap0) (by kernel_rfl) vt77 ((F1).cell 0) ?_
 obtain ⟨y1, hy1, hm⟩ := bindE hm
 refine wS_calls (d := 15) (f := 96) (vs := [.slice A0 (l0).length cap0]) (by kernel_rfl) ent96 (c_impl_graph_twice hy1 F0) ?_
 rintro _ w6 ⟨A1, cap1, fp1, fr1, rfl, F6, G4, hc6⟩
 have D4 : Dj [b1] (fp1 ++ fr1) := Dj.of (lt1 F1.lt) G4
 have D5 : Dj [b2] (fp1 ++ fr1) := Dj.of (lt1 F4.lt) G4
 have D6 : Dj [b3] (fp1 ++ fr1) := Dj.of (lt1 F5.lt) G4
 replace F0 := F0.chg hc6 Dj.nil
 replace F1 := F1.chg hc6 notNil
 replace F4 := F4.chg hc6 notNil
 replace F5 := F5.chg hc6 notNil
 replace hB := hB.inS hc6 inNil
 replace G4 := low_le hZ G4
 replace hZ := Nat.le_trans hZ hc6.size
 refine ⟨.slice A1 (y1).length cap1, rfl, ?_⟩
 refine wS_pure 1 [(5, .slice A1 (y1).length cap1)] (by kernel_rfl) ?_
 refine wS_end (by rfl) ?_
 refine eX_then ?_
 refine cW_seq ?_
 refine cW_seq ?_
 refine cW_region ?_
 refine wS_load1 (d := 16) (T := 77) (ad := ⟨b1, 0, none⟩) (v := .slice A0 (l0).length cap0) (by kernel_rfl) vt77 ((F1).cell 0) ?_
 refine wS_pure 2 [(18, .int .i64 (0)), (17, .int .i64 (((l0).length : Int)))] (by kernel_rfl) ?_
 refine wS_end (by rfl) ?_
 refine eX_then ?_
 obtain ⟨r1, hr1, hm⟩ := bindE hm
 have hm1 := hm
 refine cW_cut (fun a' w' => ∃ x1 : Int, x1 = r1 ∧ Fr 61 [(1, .pointer (some ⟨b1, 0, none⟩)), (3, .pointer (some ⟨b2, 0, none⟩)), (4, .pointer (some ⟨b3, 0, none⟩)), (5, .slice A1 (y1).length cap1)] a' ∧ SlR 1 encI w' fp0 A0 l0 ∧ Cl w' b1 77 [.slice A0 (l0).length cap0] ∧ Cl w' b2 3 [.int .i64 (((l0).length : Int))] ∧ Cl w' b3 3 [.int .i64 (x1)] ∧ OwR 1 encI 75 3 w' fp1 fr1 A1 cap1 y1 ∧ Chg [] w0 w' ∧ w0.heap.size ≤ w'.heap.size) ?_ ?_
 ·refine cW_block ?_
  refine cW_loop _ (fun (s1 : Int × Int) a' w' => ∃ x2 : Int, ∃ x3 : Int, (x2, x3) = s1 ∧ Fr 61 [(1, .pointer (some ⟨b1, 0, none⟩)), (3, .pointer (some ⟨b2, 0, none⟩)), (4, .pointer (some ⟨b3, 0, none⟩)), (5, .slice A1 (y1).length cap1), (17, .int .i64 (((l0).length : Int))), (18, .int .i64 (x2))] a' ∧ SlR 1 encI w' fp0 A0 l0 ∧ Cl w' b1 77 [.slice A0 (l0).length cap0] ∧ Cl w' b2 3 [.int .i64 (((l0).length : Int))] ∧ Cl w' b3 3 [.int .i64 (x3)] ∧ OwR 1 encI 75 3 w' fp1 fr1 A1 cap1 y1 ∧ Chg [] w0 w' ∧ w0.heap.size ≤ w'.heap.size) hr1 (fun hst => ⟨0, 0, rfl, Fr.of hst (by kernel_rfl), F0, F1, F4, F5, F6, hB, hZ⟩) ?_
  rintro _ c1 a' w7 ⟨x2, x3, rfl, hF1, F7, F8, F9, F10, F11, hB, hZ⟩ hx1
  refine Fr.goOn hF1 (by kernel_rfl) ?_
  have hm := hx1
  unfold m_impl_graph_oddRing_s1 at hm
  refine cW_seq ?_
  refine cW_region ?_
  refine wS_pure 1 [(19, .bool (decide (x2 < (((l0).length : Int)))))] (by kernel_rfl) ?_
  refine wS_end (by rfl) ?_
  refine eX_then ?_
  refine cW_seq ?_
  refine cW_cond (t := decide (x2 < (((l0).length : Int)))) (by kernel_rfl) (fun hb1 => ?_) (fun hb1 => ?_)
  ·have hm := condT hb1 hm
   refine cW_skip ?_
   refine eX_then ?_
   refine cW_seq ?_
   refine cW_block ?_
   obtain ⟨s2, hs1, hm⟩ := bindE hm
   refine cW_cut (fun a' w' => ∃ x4 : Int, x4 = s2 ∧ Fr 61 [(1, .pointer (some ⟨b1, 0, none⟩)), (3, .pointer (some ⟨b2, 0, none⟩)), (4, .pointer (some ⟨b3, 0, none⟩)), (5, .slice A1 (y1).length cap1), (17, .int .i64 (((l0).length : Int))), (18, .int .i64 (x2))] a' ∧ SlR 1 encI w' fp0 A0 l0 ∧ Cl w' b1 77 [.slice A0 (l0).length cap0] ∧ Cl w' b2 3 [.int .i64 (((l0).length : Int))] ∧ Cl w' b3 3 [.int .i64 (x4)] ∧ OwR 1 encI 75 3 w' fp1 fr1 A1 cap1 y1 ∧ Chg [] w0 w' ∧ w0.heap.size ≤ w'.heap.size) ?_ ?_
   ·have hm := hs1
    refine cW_seq ?_
    refine cW_region ?_
    refine wS_pure 2 [(6, .int .i64 (x2)), (20, .int .i64 (x2))] (by kernel_rfl) ?_
    refine wS_end (by rfl) ?_
    refine eX_then ?_
    refine cW_seq ?_
    refine cW_drawnTail [] 6 (by kernel_rfl) (by kernel_rfl) (fun w8 hc7 => ?_)
    replace F7 := F7.chg hc7 Dj.nil
    replace F8 := F8.chg hc7 notNil
    replace F9 := F9.chg hc7 notNil
    replace F10 := F10.chg hc7 notNil
    replace F11 := F11.chg hc7 Dj.nil
    replace hB := hB.inS hc7 inNil
    replace hZ := Nat.le_trans hZ hc7.size
    have hS := Chg.refl [] w8
    have Z1 := F7
    have Z2 := F8
    have Z3 := F9
    have Z4 := F10
    have Z5 := F11
    refine wH_take [0, 1, 3] [3, 1, 0] [(24, .int .i64 (x2)), (22, .int .i64 (x2)), (21, .slice A1 (y1).length cap1)] (by kernel_rfl) (qT (qT (qT (qB (qT (qL (qB (qT (qT qZ))))))))) (by kernel_rfl) ?_
    refine wH_load1 (i := 4) (d := 25) (T := 3) (ad := ⟨b2, 0, none⟩) (v := .int .i64 (((l0).length : Int))) (by kernel_rfl) (qT (qT (qT (qB (qT (qL (qB (qT (qT qZ))))))))) (by kernel_rfl) (by kernel_rfl) vt3 (fun W hW => (Z3.chg hW notNil).cell 0) ?_
    refine wH_take [5] [5, 4, 3, 1, 0] [(26, .int .i64 (wr (x2 + (((l0).length : Int)))))] (by kernel_rfl) (qT (qT (qT (qB (qT (qL (qB (qT (qT qZ))))))))) (by kernel_rfl) ?_
    refine wH_all [2] (by rfl) (by kernel_rfl) (by simp) ⟨⟨by kernel_rfl, ?_⟩, trivial⟩
    obtain ⟨y2, hy2, hm⟩ := bindE hm
    refine wS_calls (d := 23) (f := 97) (vs := [.slice A1 (y1).length cap1, .int .i64 (x2)]) (by kernel_rfl) ent97 (c_impl_graph_back hy2 (F11.slr encI_ok)) ?_
    rintro _ w9 ⟨A2, cap2, fp2, rfl, F12, G5, hc8⟩
    have D7 : Dj [b1] fp2 := Dj.of (lt1 F8.lt) G5
    have D8 : Dj [b2] fp2 := Dj.of (lt1 F9.lt) G5
    have D9 : Dj [b3] fp2 := Dj.of (lt1 F10.lt) G5
    have D10 : Dj (fp1 ++ fr1) fp2 := Dj.of F11.low G5
    replace F7 := F7.chg hc8 Dj.nil
    replace F8 := F8.chg hc8 notNil
    replace F9 := F9.chg hc8 notNil
    replace F10 := F10.chg hc8 notNil
    replace F11 := F11.chg hc8 Dj.nil
    replace hB := hB.inS hc8 inNil
    have hSz := hS
    replace hS := hS.inS hc8 inNil
    replace G5 := low_le hZ G5
    replace hZ := Nat.le_trans hZ hc8.size
    refine ⟨.slice A2 (y2).length cap2, rfl, ?_⟩
    refine wS_end (by kernel_rfl) ?_
    refine eX_KH hS ?_
    refine wH_done (by kernel_rfl) ?_
    refine eX_tail ?_
    obtain ⟨x5, hx2, hm⟩ := bindE hm
    refine wS_idx (d := 27) (T := 75) (A := A2) (n := (y2).length) (cap := cap2) (kd := .i64) (m := wr (x2 + (((l0).length : Int)))) (by kernel_rfl) sl75 ((F12.sl encI_ok).is hx2) ?_
    refine wS_load1 (d := 28) (T := 3) (ad := (elA A2 1 (wr (x2 + (((l0).length : Int)))) 0)) (v := .int .i64 (x5)) (by kernel_rfl) vt3 (Sl.cell (F12.sl encI_ok) hx2 0 (by rfl)) ?_
    refine wS_pure 1 [(7, .int .i64 (x5))] (by kernel_rfl) ?_
    refine wS_end (by rfl) ?_
    refine eX_then ?_
    refine cW_seq ?_
    refine cW_region ?_
    refine wS_pure 3 [(31, .bool (decide (x5 > 0))), (30, .bool (decide (x5 > 0))), (29, .int .i64 (x5))] (by kernel_rfl) ?_
    refine wS_bool (decide (x5 > 0)) (fun hb2 => ?_) (fun hb2 => ?_)
    ·have hm := condT hb2 hm
     rewrite [hb2]
     refine wS_load1 (d := 32) (T := 3) (ad := ⟨b3, 0, none⟩) (v := .int .i64 (x3)) (by kernel_rfl) vt3 ((F10).cell 0) ?_
     refine wS_pure 2 [(34, .bool (x3 == 0)), (33, .bool (x3 == 0))] (by kernel_rfl) ?_
     refine wS_bool (x3 == 0) (fun hb3 => ?_) (fun hb3 => ?_)
     ·have hm := condT hb3 hm
      rewrite [hb3]
      refine wS_pure 5 [(39, .bool (true)), (38, .bool (true)), (37, undef), (36, undef), (35, undef)] (by kernel_rfl) ?_
      refine wS_end (by rfl) ?_
      refine eX_then ?_
      refine cW_prune [(1, .pointer (some ⟨b1, 0, none⟩)), (3, .pointer (some ⟨b2, 0, none⟩)), (4, .pointer (some ⟨b3, 0, none⟩)), (5, .slice A1 (y1).length cap1), (7, .int .i64 (x5)), (17, .int .i64 (((l0).length : Int))), (18, .int .i64 (x2)), (39, .bool (true))] (by kernel_rfl) (by kernel_rfl) (fun a1 => ?_)
      refine cW_cond_t (by kernel_rfl) ?_
      refine cW_region ?_
      refine wS_pure 1 [(40, .int .i64 (x5))] (by kernel_rfl) ?_
      refine wS_store (T := 3) (g := b3) (o := 0) (ad := ⟨b3, 0, none⟩) (v := .int .i64 (x5)) (vs := [.int .i64 (x5)]) (by kernel_rfl) (by rfl) sz3 (by rfl) (by rfl) F10 (by simp only [List.length_cons, List.length_nil]; omega) ?_
      intro w10 F13 hc9
      replace F7 := F7.chg hc9 (Dj.of L0 (low1 G3))
      replace F8 := F8.chg hc9 (dj1 D2)
      replace F9 := F9.chg hc9 (dj1 D3)
      replace F11 := F11.chg hc9 (D6).symm
      replace F12 := F12.chg hc9 (D9).symm
      replace hB := hB.inS hc9 (inLow (low1 G3))
      replace hZ := Nat.le_trans hZ hc9.size
      replace F13 : Cl w10 b3 3 [.int .i64 (x5)] := F13
      clear F10
      refine wS_end (by rfl) ?_
      have hq : (some x5 : Option (Int)) = some _ := hm
      replace hq := someE hq
      subst hq
      exact eX_J (fun hst => ⟨x5, rfl, Fr.of hst (by kernel_rfl), F7, F8, F9, F13, F11, hB, hZ⟩)
     ·have hm := condF hb3 hm
      rewrite [hb3]
      refine wS_pure 1 [(35, .int .i64 (x5))] (by kernel_rfl) ?_
      refine wS_load1 (d := 36) (T := 3) (ad := ⟨b3, 0, none⟩) (v := .int .i64 (x3)) (by kernel_rfl) vt3 ((F10).cell 0) ?_
      refine wS_pure 3 [(39, .bool (decide (x5 < x3))), (38, .bool (decide (x5 < x3))), (37, .bool (decide (x5 < x3)))] (by kernel_rfl) ?_
      refine wS_end (by rfl) ?_
      refine eX_then ?_
      refine cW_prune [(1, .pointer (some ⟨b1, 0, none⟩)), (3, .pointer (some ⟨b2, 0, none⟩)), (4, .pointer (some ⟨b3, 0, none⟩)), (5, .slice A1 (y1).length cap1), (7, .int .i64 (x5)), (17, .int .i64 (((l0).length : Int))), (18, .int .i64 (x2)), (39, .bool (decide (x5 < x3)))] (by kernel_rfl) (by kernel_rfl) (fun a2 => ?_)
      refine cW_cond (t := decide (x5 < x3)) (by kernel_rfl) (fun hb4 => ?_) (fun hb4 => ?_)
      ·have hm := condT hb4 hm
       refine cW_region ?_
       refine wS_pure 1 [(40, .int .i64 (x5))] (by kernel_rfl) ?_
       refine wS_store (T := 3) (g := b3) (o := 0) (ad := ⟨b3, 0, none⟩) (v := .int .i64 (x5)) (vs := [.int .i64 (x5)]) (by kernel_rfl) (by rfl) sz3 (by rfl) (by rfl) F10 (by simp only [List.length_cons, List.length_nil]; omega) ?_
       intro w11 F14 hc10
       replace F7 := F7.chg hc10 (Dj.of L0 (low1 G3))
       replace F8 := F8.chg hc10 (dj1 D2)
       replace F9 := F9.chg hc10 (dj1 D3)
       replace F11 := F11.chg hc10 (D6).symm
       replace F12 := F12.chg hc10 (D9).symm
       replace hB := hB.inS hc10 (inLow (low1 G3))
       replace hZ := Nat.le_trans hZ hc10.size
       replace F14 : Cl w11 b3 3 [.int .i64 (x5)] := F14
       clear F10
       refine wS_end (by rfl) ?_
       have hq : (some x5 : Option (Int)) = some _ := hm
       replace hq := someE hq
       subst hq
       exact eX_J (fun hst => ⟨x5, rfl, Fr.of hst (by kernel_rfl), F7, F8, F9, F14, F11, hB, hZ⟩)
      ·have hm := condF hb4 hm
       refine cW_skip ?_
       have hq : (some x3 : Option (Int)) = some _ := hm
       replace hq := someE hq
       subst hq
       exact eX_J (fun hst => ⟨x3, rfl, Fr.of hst (by kernel_rfl), F7, F8, F9, F10, F11, hB, hZ⟩)
    ·have hm := condF hb2 hm
     rewrite [hb2]
     refine wS_pure 8 [(39, .bool (false)), (38, undef), (37, undef), (36, undef), (35, undef), (34, undef), (33, undef), (32, undef)] (by kernel_rfl) ?_
     refine wS_end (by rfl) ?_
     refine eX_then ?_
     refine cW_prune [(1, .pointer (some ⟨b1, 0, none⟩)), (3, .pointer (some ⟨b2, 0, none⟩)), (4, .pointer (some ⟨b3, 0, none⟩)), (5, .slice A1 (y1).length cap1), (7, .int .i64 (x5)), (17, .int .i64 (((l0).length : Int))), (18, .int .i64 (x2)), (39, .bool (false))] (by kernel_rfl) (by kernel_rfl) (fun a3 => ?_)
     refine cW_cond_f (by kernel_rfl) ?_
     refine cW_skip ?_
     have hq : (some x3 : Option (Int)) = some _ := hm
     replace hq := someE hq
     subst hq
     exact eX_J (fun hst => ⟨x3, rfl, Fr.of hst (by kernel_rfl), F7, F8, F9, F10, F11, hB, hZ⟩)
   ·rintro a' w12 ⟨x4, hJ, hF2, F15, F16, F17, F18, F19, hB, hZ⟩
    subst hJ
    refine Fr.goX hF2 (by kernel_rfl) ?_
    refine eX_block ?_
    refine eX_then ?_
    refine cW_region ?_
    refine wS_pure 2 [(18, .int .i64 (wr (x2 + 1))), (41, .int .i64 (wr (x2 + 1)))] (by kernel_rfl) ?_
    refine wS_end (by rfl) ?_
    have hq : (some (Ctl.next ((wr (x2 + 1), x4))) : Option (Ctl (Int × Int) (Int))) = some _ := hm
    replace hq := someE hq
    subst hq
    exact eX_next hx1 (fun hst => ⟨wr (x2 + 1), x4, rfl, Fr.of hst (by kernel_rfl), F15, F16, F17, F18, F19, hB, hZ⟩)
  ·have hm := condF hb1 hm
   refine cW_exit ?_
   refine eX_then_exit ?_
   have hq : (some (Ctl.out x3) : Option (Ctl (Int × Int) (Int))) = some _ := hm
   replace hq := someE hq
   subst hq
   refine eX_outX hx1 (fun hr2 => ?_)
   replace hr2 := hr2.symm
   subst hr2
   refine eX_block_hit ?_
   exact eX_J (fun hst => ⟨x3, rfl, Fr.of hst (by kernel_rfl), F7, F8, F9, F10, F11, hB, hZ⟩)
 ·rintro a' w13 ⟨x1, hJ, hF3, F20, F21, F22, F23, F24, hB, hZ⟩
  subst hJ
  refine Fr.goX hF3 (by kernel_rfl) ?_
  refine eX_then ?_
  refine cW_seq ?_
  refine cW_seq ?_
  refine cW_region ?_
  refine wS_load1 (d := 42) (T := 77) (ad := ⟨b1, 0, none⟩) (v := .slice A0 (l0).length cap0) (by kernel_rfl) vt77 ((F21).cell 0) ?_
  refine wS_pure 2 [(44, .int .i64 (0)), (43, .int .i64 (((l0).length : Int)))] (by kernel_rfl) ?_
  refine wS_end (by rfl) ?_
  refine eX_then ?_
  obtain ⟨r2, hr3, hm⟩ := bindE hm
  have hm2 := hm
  refine cW_cut (fun a' w' => Sum.inl (()) = r2 ∧ Fr 61 [] a' ∧ Chg [] w0 w' ∧ w0.heap.size ≤ w'.heap.size) ?_ ?_
  ·refine cW_block ?_
   refine cW_loop _ (fun (s3 : Int) a' w' => ∃ x6 : Int, x6 = s3 ∧ Fr 61 [(1, .pointer (some ⟨b1, 0, none⟩)), (3, .pointer (some ⟨b2, 0, none⟩)), (4, .pointer (some ⟨b3, 0, none⟩)), (5, .slice A1 (y1).length cap1), (43, .int .i64 (((l0).length : Int))), (44, .int .i64 (x6))] a' ∧ SlR 1 encI w' fp0 A0 l0 ∧ Cl w' b1 77 [.slice A0 (l0).length cap0] ∧ Cl w' b2 3 [.int .i64 (((l0).length : Int))] ∧ Cl w' b3 3 [.int .i64 (x1)] ∧ OwR 1 encI 75 3 w' fp1 fr1 A1 cap1 y1 ∧ Chg [] w0 w' ∧ w0.heap.size ≤ w'.heap.size) hr3 (fun hst => ⟨0, rfl, Fr.of hst (by kernel_rfl), F20, F21, F22, F23, F24, hB, hZ⟩) ?_
   rintro _ c2 a' w14 ⟨x6, rfl, hF4, F25, F26, F27, F28, F29, hB, hZ⟩ hx3
   refine Fr.goOn hF4 (by kernel_rfl) ?_
   have hm := hx3
   unfold m_impl_graph_oddRing_s2 at hm
   refine cW_seq ?_
   refine cW_region ?_
   refine wS_pure 1 [(45, .bool (decide (x6 < (((l0).length : Int)))))] (by kernel_rfl) ?_
   refine wS_end (by rfl) ?_
   refine eX_then ?_
   refine cW_seq ?_
   refine cW_cond (t := decide (x6 < (((l0).length : Int)))) (by kernel_rfl) (fun hb5 => ?_) (fun hb5 => ?_)
   ·have hm := condT hb5 hm
    refine cW_skip ?_
    refine eX_then ?_
    refine cW_seq ?_
    refine cW_block ?_
    refine cW_seq ?_
    refine cW_region ?_
    refine wS_pure 1 [(46, .int .i64 (x6))] (by kernel_rfl) ?_
    refine wS_alloc (d := 8) (T := 3) (z := .int .i64 (0)) (by kernel_rfl) (by kernel_rfl) ?_
    intro b4 w15 G6 F30 hc11
    replace F30 : Cl w15 b4 3 [.int .i64 (0)] := F30
    have D11 : Dj [b1] [b4] := Dj.of (lt1 F26.lt) (low1 G6)
    have D12 : Dj [b2] [b4] := Dj.of (lt1 F27.lt) (low1 G6)
    have D13 : Dj [b3] [b4] := Dj.of (lt1 F28.lt) (low1 G6)
    have D14 : Dj (fp1 ++ fr1) [b4] := Dj.of F29.low (low1 G6)
    replace F25 := F25.chg hc11 Dj.nil
    replace F26 := F26.chg hc11 notNil
    replace F27 := F27.chg hc11 notNil
    replace F28 := F28.chg hc11 notNil
    replace F29 := F29.chg hc11 Dj.nil
    replace hB := hB.inS hc11 inNil
    replace G6 := Nat.le_trans hZ G6
    replace hZ := Nat.le_trans hZ hc11.size
    refine wS_store (T := 3) (g := b4) (o := 0) (ad := ⟨b4, 0, none⟩) (v := .int .i64 (x6)) (vs := [.int .i64 (x6)]) (by kernel_rfl) (by rfl) sz3 (by rfl) (by rfl) F30 (by simp only [List.length_cons, List.length_nil]; omega) ?_
    intro w16 F31 hc12
    replace F25 := F25.chg hc12 (Dj.of L0 (low1 G6))
    replace F26 := F26.chg hc12 (dj1 D11)
    replace F27 := F27.chg hc12 (dj1 D12)
    replace F28 := F28.chg hc12 (dj1 D13)
    replace F29 := F29.chg hc12 D14
    replace hB := hB.inS hc12 (inLow (low1 G6))
    replace hZ := Nat.le_trans hZ hc12.size
    replace F31 : Cl w16 b4 3 [.int .i64 (x6)] := F31
    clear F30
    refine wS_end (by rfl) ?_
    refine eX_then ?_
    refine cW_seq ?_
    refine cW_region ?_
    refine wS_pure 1 [(47, .slice A1 (y1).length cap1)] (by kernel_rfl) ?_
    refine wS_load1 (d := 48) (T := 3) (ad := ⟨b4, 0, none⟩) (v := .int .i64 (x6)) (by kernel_rfl) vt3 ((F31).cell 0) ?_
    obtain ⟨y3, hy3, hm⟩ := bindE hm
    refine wS_calls (d := 49) (f := 97) (vs := [.slice A1 (y1).length cap1, .int .i64 (x6)]) (by kernel_rfl) ent97 (c_impl_graph_back hy3 (F29.slr encI_ok)) ?_
    rintro _ w17 ⟨A3, cap3, fp3, rfl, F32, G7, hc13⟩
    have D15 : Dj [b1] fp3 := Dj.of (lt1 F26.lt) G7
    have D16 : Dj [b2] fp3 := Dj.of (lt1 F27.lt) G7
    have D17 : Dj [b3] fp3 := Dj.of (lt1 F28.lt) G7
    have D18 : Dj (fp1 ++ fr1) fp3 := Dj.of F29.low G7
    have D19 : Dj [b4] fp3 := Dj.of (lt1 F31.lt) G7
    replace F25 := F25.chg hc13 Dj.nil
    replace F26 := F26.chg hc13 notNil
    replace F27 := F27.chg hc13 notNil
    replace F28 := F28.chg hc13 notNil
    replace F29 := F29.chg hc13 Dj.nil
    replace F31 := F31.chg hc13 notNil
    replace hB := hB.inS hc13 inNil
    replace G7 := low_le hZ G7
    replace hZ := Nat.le_trans hZ hc13.size
    refine ⟨.slice A3 (y3).length cap3, rfl, ?_⟩
    refine wS_alloc (d := 9) (T := 75) (z := .slice none 0 0) (by kernel_rfl) (by kernel_rfl) ?_
    intro b5 w18 G8 F33 hc14
    replace F33 : Cl w18 b5 75 [.slice none 0 0] := F33
    have D20 : Dj [b1] [b5] := Dj.of (lt1 F26.lt) (low1 G8)
    have D21 : Dj [b2] [b5] := Dj.of (lt1 F27.lt) (low1 G8)
    have D22 : Dj [b3] [b5] := Dj.of (lt1 F28.lt) (low1 G8)
    have D23 : Dj (fp1 ++ fr1) [b5] := Dj.of F29.low (low1 G8)
    have D24 : Dj [b4] [b5] := Dj.of (lt1 F31.lt) (low1 G8)
    have D25 : Dj fp3 [b5] := Dj.of F32.low (low1 G8)
    replace F25 := F25.chg hc14 Dj.nil
    replace F26 := F26.chg hc14 notNil
    replace F27 := F27.chg hc14 notNil
    replace F28 := F28.chg hc14 notNil
    replace F29 := F29.chg hc14 Dj.nil
    replace F31 := F31.chg hc14 notNil
    replace F32 := F32.chg hc14 Dj.nil
    replace hB := hB.inS hc14 inNil
    replace G8 := Nat.le_trans hZ G8
    replace hZ := Nat.le_trans hZ hc14.size
    refine wS_store (T := 75) (g := b5) (o := 0) (ad := ⟨b5, 0, none⟩) (v := .slice A3 (y3).length cap3) (vs := [.slice A3 (y3).length cap3]) (by kernel_rfl) (by rfl) sz75 (by rfl) (by rfl) F33 (by simp only [List.length_cons, List.length_nil]; omega) ?_
    intro w19 F34 hc15
    replace F25 := F25.chg hc15 (Dj.of L0 (low1 G8))
    replace F26 := F26.chg hc15 (dj1 D20)
    replace F27 := F27.chg hc15 (dj1 D21)
    replace F28 := F28.chg hc15 (dj1 D22)
    replace F29 := F29.chg hc15 D23
    replace F31 := F31.chg hc15 (dj1 D24)
    replace F32 := F32.chg hc15 D25
    replace hB := hB.inS hc15 (inLow (low1 G8))
    replace hZ := Nat.le_trans hZ hc15.size
    replace F34 : Cl w19 b5 75 [.slice A3 (y3).length cap3] := F34
    clear F33
    refine wS_end (by rfl) ?_
    refine eX_then ?_
    refine cW_seq ?_
    refine cW_region ?_
    refine wS_load1 (d := 50) (T := 3) (ad := ⟨b4, 0, none⟩) (v := .int .i64 (x6)) (by kernel_rfl) vt3 ((F31).cell 0) ?_
    refine wS_bs (enc := encI) ([x6] : List (Int)) [.int .i64 (x6)] (d := 51) (t := 75) (T := 3) (n := 1) (ps := [(0, .int .i64 (x6))]) (by kernel_rfl) el75 encI_ok (by rfl) (by omega) (by omega) (by kernel_rfl) (by rfl) ?_
    intro b6 w20 G9 F35 hc16
    have D26 : Dj [b1] [b6] := Dj.of (lt1 F26.lt) (low1 G9)
    have D27 : Dj [b2] [b6] := Dj.of (lt1 F27.lt) (low1 G9)
    have D28 : Dj [b3] [b6] := Dj.of (lt1 F28.lt) (low1 G9)
    have D29 : Dj (fp1 ++ fr1) [b6] := Dj.of F29.low (low1 G9)
    have D30 : Dj [b4] [b6] := Dj.of (lt1 F31.lt) (low1 G9)
    have D31 : Dj fp3 [b6] := Dj.of F32.low (low1 G9)
    have D32 : Dj [b5] [b6] := Dj.of (lt1 F34.lt) (low1 G9)
    replace F25 := F25.chg hc16 Dj.nil
    replace F26 := F26.chg hc16 notNil
    replace F27 := F27.chg hc16 notNil
    replace F28 := F28.chg hc16 notNil
    replace F29 := F29.chg hc16 Dj.nil
    replace F31 := F31.chg hc16 notNil
    replace F32 := F32.chg hc16 Dj.nil
    replace F34 := F34.chg hc16 notNil
    replace hB := hB.inS hc16 inNil
    replace G9 := Nat.le_trans hZ G9
    replace G9 := low1 G9
    replace hZ := Nat.le_trans hZ hc16.size
    refine wS_alloc (d := 10) (T := 75) (z := .slice none 0 0) (by kernel_rfl) (by kernel_rfl) ?_
    intro b7 w21 G10 F36 hc17
    replace F36 : Cl w21 b7 75 [.slice none 0 0] := F36
    have D33 : Dj [b1] [b7] := Dj.of (lt1 F26.lt) (low1 G10)
    have D34 : Dj [b2] [b7] := Dj.of (lt1 F27.lt) (low1 G10)
    have D35 : Dj [b3] [b7] := Dj.of (lt1 F28.lt) (low1 G10)
    have D36 : Dj (fp1 ++ fr1) [b7] := Dj.of F29.low (low1 G10)
    have D37 : Dj [b4] [b7] := Dj.of (lt1 F31.lt) (low1 G10)
    have D38 : Dj fp3 [b7] := Dj.of F32.low (low1 G10)
    have D39 : Dj [b5] [b7] := Dj.of (lt1 F34.lt) (low1 G10)
    have D40 : Dj [b6] [b7] := Dj.of F35.low (low1 G10)
    replace F25 := F25.chg hc17 Dj.nil
    replace F26 := F26.chg hc17 notNil
    replace F27 := F27.chg hc17 notNil
    replace F28 := F28.chg hc17 notNil
    replace F29 := F29.chg hc17 Dj.nil
    replace F31 := F31.chg hc17 notNil
    replace F32 := F32.chg hc17 Dj.nil
    replace F34 := F34.chg hc17 notNil
    replace F35 := F35.chg hc17 Dj.nil
    replace hB := hB.inS hc17 inNil
    replace G10 := Nat.le_trans hZ G10
    replace hZ := Nat.le_trans hZ hc17.size
    refine wS_store (T := 75) (g := b7) (o := 0) (ad := ⟨b7, 0, none⟩) (v := .slice (some ⟨b6, 0, none⟩) (([x6] : List (Int))).length 1) (vs := [.slice (some ⟨b6, 0, none⟩) (([x6] : List (Int))).length 1]) (by kernel_rfl) (by rfl) sz75 (by rfl) (by rfl) F36 (by simp only [List.length_cons, List.length_nil]; omega) ?_
    intro w22 F37 hc18
    replace F25 := F25.chg hc18 (Dj.of L0 (low1 G10))
    replace F26 := F26.chg hc18 (dj1 D33)
    replace F27 := F27.chg hc18 (dj1 D34)
    replace F28 := F28.chg hc18 (dj1 D35)
    replace F29 := F29.chg hc18 D36
    replace F31 := F31.chg hc18 (dj1 D37)
    replace F32 := F32.chg hc18 D38
    replace F34 := F34.chg hc18 (dj1 D39)
    replace F35 := F35.chg hc18 D40
    replace hB := hB.inS hc18 (inLow (low1 G10))
    replace hZ := Nat.le_trans hZ hc18.size
    replace F37 : Cl w22 b7 75 [.slice (some ⟨b6, 0, none⟩) (([x6] : List (Int))).length 1] := F37
    clear F36
    refine wS_end (by rfl) ?_
    refine eX_then ?_
    refine cW_seq ?_
    refine cW_region ?_
    refine wS_alloc (d := 11) (T := 127) (z := .nilFunc) (by kernel_rfl) (by kernel_rfl) ?_
    intro b8 w23 G11 F38 hc19
    replace F38 : Cl w23 b8 127 [.nilFunc] := F38
    have D41 : Dj [b1] [b8] := Dj.of (lt1 F26.lt) (low1 G11)
    have D42 : Dj [b2] [b8] := Dj.of (lt1 F27.lt) (low1 G11)
    have D43 : Dj [b3] [b8] := Dj.of (lt1 F28.lt) (low1 G11)
    have D44 : Dj (fp1 ++ fr1) [b8] := Dj.of F29.low (low1 G11)
    have D45 : Dj [b4] [b8] := Dj.of (lt1 F31.lt) (low1 G11)
    have D46 : Dj fp3 [b8] := Dj.of F32.low (low1 G11)
    have D47 : Dj [b5] [b8] := Dj.of (lt1 F34.lt) (low1 G11)
    have D48 : Dj [b6] [b8] := Dj.of F35.low (low1 G11)
    have D49 : Dj [b7] [b8] := Dj.of (lt1 F37.lt) (low1 G11)
    replace F25 := F25.chg hc19 Dj.nil
    replace F26 := F26.chg hc19 notNil
    replace F27 := F27.chg hc19 notNil
    replace F28 := F28.chg hc19 notNil
    replace F29 := F29.chg hc19 Dj.nil
    replace F31 := F31.chg hc19 notNil
    replace F32 := F32.chg hc19 Dj.nil
    replace F34 := F34.chg hc19 notNil
    replace F35 := F35.chg hc19 Dj.nil
    replace F37 := F37.chg hc19 notNil
    replace hB := hB.inS hc19 inNil
    replace G11 := Nat.le_trans hZ G11
    replace hZ := Nat.le_trans hZ hc19.size
    refine wS_end (by rfl) ?_
    refine eX_then ?_
    refine cW_seq ?_
    refine cW_region ?_
    refine wS_pure 1 [(52, .func (.func 98) #[] #[.pointer (some ⟨b7, 0, none⟩), .pointer (some ⟨b3, 0, none⟩), .pointer (some ⟨b1, 0, none⟩), .pointer (some ⟨b4, 0, none⟩), .pointer (some ⟨b5, 0, none⟩), .pointer (some ⟨b2, 0, none⟩), .pointer (some ⟨b8, 0, none⟩)])] (by kernel_rfl) ?_
    refine wS_store (T := 127) (g := b8) (o := 0) (ad := ⟨b8, 0, none⟩) (v := .func (.func 98) #[] #[.pointer (some ⟨b7, 0, none⟩), .pointer (some ⟨b3, 0, none⟩), .pointer (some ⟨b1, 0, none⟩), .pointer (some ⟨b4, 0, none⟩), .pointer (some ⟨b5, 0, none⟩), .pointer (some ⟨b2, 0, none⟩), .pointer (some ⟨b8, 0, none⟩)]) (vs := [.func (.func 98) #[] #[.pointer (some ⟨b7, 0, none⟩), .pointer (some ⟨b3, 0, none⟩), .pointer (some ⟨b1, 0, none⟩), .pointer (some ⟨b4, 0, none⟩), .pointer (some ⟨b5, 0, none⟩), .pointer (some ⟨b2, 0, none⟩), .pointer (some ⟨b8, 0, none⟩)]]) (by kernel_rfl) (by rfl) sz127 (by rfl) (by rfl) F38 (by simp only [List.length_cons, List.length_nil]; omega) ?_
    intro w24 F39 hc20
    replace F25 := F25.chg hc20 (Dj.of L0 (low1 G11))
    replace F26 := F26.chg hc20 (dj1 D41)
    replace F27 := F27.chg hc20 (dj1 D42)
    replace F28 := F28.chg hc20 (dj1 D43)
    replace F29 := F29.chg hc20 D44
    replace F31 := F31.chg hc20 (dj1 D45)
    replace F32 := F32.chg hc20 D46
    replace F34 := F34.chg hc20 (dj1 D47)
    replace F35 := F35.chg hc20 D48
    replace F37 := F37.chg hc20 (dj1 D49)
    replace hB := hB.inS hc20 (inLow (low1 G11))
    replace hZ := Nat.le_trans hZ hc20.size
    replace F39 : Cl w24 b8 127 [.func (.func 98) #[] #[.pointer (some ⟨b7, 0, none⟩), .pointer (some ⟨b3, 0, none⟩), .pointer (some ⟨b1, 0, none⟩), .pointer (some ⟨b4, 0, none⟩), .pointer (some ⟨b5, 0, none⟩), .pointer (some ⟨b2, 0, none⟩), .pointer (some ⟨b8, 0, none⟩)]] := F39
    clear F38
    refine wS_end (by rfl) ?_
    refine eX_then ?_
    refine cW_seq ?_
    refine cW_region ?_
    refine wS_load1 (d := 53) (T := 3) (ad := ⟨b3, 0, none⟩) (v := .int .i64 (x1)) (by kernel_rfl) vt3 ((F28).cell 0) ?_
    refine wS_pure 2 [(55, .bool (decide (x1 > 0))), (54, .bool (decide (x1 > 0)))] (by kernel_rfl) ?_
    refine wS_bool (decide (x1 > 0)) (fun hb6 => ?_) (fun hb6 => ?_)
    ·have hm := condT hb6 hm
     rewrite [hb6]
     refine wS_load1 (d := 56) (T := 127) (ad := ⟨b8, 0, none⟩) (v := .func (.func 98) #[] #[.pointer (some ⟨b7, 0, none⟩), .pointer (some ⟨b3, 0, none⟩), .pointer (some ⟨b1, 0, none⟩), .pointer (some ⟨b4, 0, none⟩), .pointer (some ⟨b5, 0, none⟩), .pointer (some ⟨b2, 0, none⟩), .pointer (some ⟨b8, 0, none⟩)]) (by kernel_rfl) vt127 ((F39).cell 0) ?_
     obtain ⟨y4, hy4, hm⟩ := bindE hm
     refine wS_calls (d := 57) (f := 98) (vs := [.pointer (some ⟨b7, 0, none⟩), .pointer (some ⟨b3, 0, none⟩), .pointer (some ⟨b1, 0, none⟩), .pointer (some ⟨b4, 0, none⟩), .pointer (some ⟨b5, 0, none⟩), .pointer (some ⟨b2, 0, none⟩), .pointer (some ⟨b8, 0, none⟩)]) (by kernel_rfl) ent98 (c_impl_graph_oddRing_1_bint_bint_bimplgraph_bint_bint_bint_bfuncbool_self 64 hy4 F35 F37 F28 F25 F26 F31 (F32.sl encI_ok) F34 F27 F39 (D40).symm (D35).symm (Dj.of L0 (low1 G10)).symm (D33).symm (D37).symm (D38).symm (D39).symm (D34).symm D49 (D28).symm (Dj.of L0 G9).symm (D26).symm (D30).symm (D31).symm (D32).symm (D27).symm D48) ?_
     rintro _ w25 ⟨A4, cap4, fp4, rfl, F40, F41, hap1, hc21⟩
     have G12 := Rt.lowof hap1 hZ G9
     have D50 : Dj [b1] fp4 := Dj.ap D26 (lt1 F26.lt) hap1
     have D51 : Dj [b2] fp4 := Dj.ap D27 (lt1 F27.lt) hap1
     have D52 : Dj [b3] fp4 := Dj.ap D28 (lt1 F28.lt) hap1
     have D53 : Dj (fp1 ++ fr1) fp4 := Dj.ap D29 F29.low hap1
     have D54 : Dj [b4] fp4 := Dj.ap D30 (lt1 F31.lt) hap1
     have D55 : Dj fp3 fp4 := Dj.ap D31 F32.low hap1
     have D56 : Dj [b5] fp4 := Dj.ap D32 (lt1 F34.lt) hap1
     have D57 : Dj [b7] fp4 := Dj.ap (D40).symm (lt1 F37.lt) hap1
     have D58 : Dj [b8] fp4 := Dj.ap (D48).symm (lt1 F39.lt) hap1
     replace F25 := F25.chg hc21 (Dj.app (Dj.of L0 (low1 G10)) (Dj.app (Dj.of L0 G9) Dj.nil))
     replace F26 := F26.chg hc21 (dj1 (Dj.app D33 (Dj.app D26 Dj.nil)))
     replace F27 := F27.chg hc21 (dj1 (Dj.app D34 (Dj.app D27 Dj.nil)))
     replace F28 := F28.chg hc21 (dj1 (Dj.app D35 (Dj.app D28 Dj.nil)))
     replace F29 := F29.chg hc21 (Dj.app D36 (Dj.app D29 Dj.nil))
     replace F31 := F31.chg hc21 (dj1 (Dj.app D37 (Dj.app D30 Dj.nil)))
     replace F32 := F32.chg hc21 (Dj.app D38 (Dj.app D31 Dj.nil))
     replace F34 := F34.chg hc21 (dj1 (Dj.app D39 (Dj.app D32 Dj.nil)))
     replace F39 := F39.chg hc21 (dj1 (Dj.app (D49).symm (Dj.app (D48).symm Dj.nil)))
     replace hB := hB.inS hc21 (inApp (inLow (low1 G10)) (inApp (inLow G9) inNil))
     replace hZ := Nat.le_trans hZ hc21.size
     clear F37
     refine ⟨.bool (y4.1), rfl, ?_⟩
     refine wS_pure 1 [(58, .bool (y4.1))] (by kernel_rfl) ?_
     refine wS_end (by rfl) ?_
     refine eX_then ?_
     refine cW_prune [(1, .pointer (some ⟨b1, 0, none⟩)), (3, .pointer (some ⟨b2, 0, none⟩)), (4, .pointer (some ⟨b3, 0, none⟩)), (5, .slice A1 (y1).length cap1), (10, .pointer (some ⟨b7, 0, none⟩)), (43, .int .i64 (((l0).length : Int))), (44, .int .i64 (x6)), (58, .bool (y4.1))] (by kernel_rfl) (by kernel_rfl) (fun a4 => ?_)
     refine cW_cond (t := y4.1) (by kernel_rfl) (fun hb7 => ?_) (fun hb7 => ?_)
     ·have hm := condT hb7 hm
      refine cW_seq ?_
      refine cW_region ?_
      refine wS_load1 (d := 59) (T := 75) (ad := ⟨b7, 0, none⟩) (v := .slice A4 (y4.2).length cap4) (by kernel_rfl) vt75 ((F40).cell 0) ?_
      refine wS_pure 1 [(2, .slice A4 (y4.2).length cap4)] (by kernel_rfl) ?_
      refine wS_end (by rfl) ?_
      refine eX_then ?_
      refine cW_ret ?_
      refine eX_block_ret ?_
      refine eX_then_ret ?_
      have hq : (some (Ctl.out (Sum.inr y4.2)) : Option (Ctl (Int) (Sum (Unit) ((List (Int)))))) = some _ := hm
      replace hq := someE hq
      subst hq
      refine eX_outR hx3 (fun hr => ?_)
      subst hr
      refine eX_block_ret ?_
      refine eX_then_ret ?_
      refine eX_then_ret ?_
      have hq : (some y4.2 : Option ((List (Int)))) = some _ := hm2
      replace hq := someE hq
      subst hq
      refine eX_ret (vs := [.slice A4 (y4.2).length cap4]) [.tmp 2] (by rfl) ⟨by (show lkE _ _ _ = _); kernel_rfl, trivial⟩ ?_
      exact ⟨A4, cap4, fp4, rfl, F41, G12, hB⟩
     ·have hm := condF hb7 hm
      refine cW_skip ?_
      refine eX_block ?_
      refine eX_then ?_
      refine cW_region ?_
      refine wS_pure 2 [(44, .int .i64 (wr (x6 + 1))), (60, .int .i64 (wr (x6 + 1)))] (by kernel_rfl) ?_
      refine wS_end (by rfl) ?_
      have hq : (some (Ctl.next (wr (x6 + 1))) : Option (Ctl (Int) (Sum (Unit) ((List (Int)))))) = some _ := hm
      replace hq := someE hq
      subst hq
      exact eX_next hx3 (fun hst => ⟨wr (x6 + 1), rfl, Fr.of hst (by kernel_rfl), F25, F26, F27, F28, F29, hB, hZ⟩)
    ·have hm := condF hb6 hm
     rewrite [hb6]
     refine wS_pure 3 [(58, .bool (false)), (57, undef), (56, undef)] (by kernel_rfl) ?_
     refine wS_end (by rfl) ?_
     refine eX_then ?_
     refine cW_prune [(1, .pointer (some ⟨b1, 0, none⟩)), (3, .pointer (some ⟨b2, 0, none⟩)), (4, .pointer (some ⟨b3, 0, none⟩)), (5, .slice A1 (y1).length cap1), (10, .pointer (some ⟨b7, 0, none⟩)), (43, .int .i64 (((l0).length : Int))), (44, .int .i64 (x6)), (58, .bool (false))] (by kernel_rfl) (by kernel_rfl) (fun a5 => ?_)
     refine cW_cond_f (by kernel_rfl) ?_
     refine cW_skip ?_
     refine eX_block ?_
     refine eX_then ?_
     refine cW_region ?_
     refine wS_pure 2 [(44, .int .i64 (wr (x6 + 1))), (60, .int .i64 (wr (x6 + 1)))] (by kernel_rfl) ?_
     refine wS_end (by rfl) ?_
     have hq : (some (Ctl.next (wr (x6 + 1))) : Option (Ctl (Int) (Sum (Unit) ((List (Int)))))) = some _ := hm
     replace hq := someE hq
     subst hq
     exact eX_next hx3 (fun hst => ⟨wr (x6 + 1), rfl, Fr.of hst (by kernel_rfl), F25, F26, F27, F28, F29, hB, hZ⟩)
   ·have hm := condF hb5 hm
    refine cW_exit ?_
    refine eX_then_exit ?_
    have hq : (some (Ctl.out (Sum.inl (()))) : Option (Ctl (Int) (Sum (Unit) ((List (Int)))))) = some _ := hm
    replace hq := someE hq
    subst hq
    refine eX_outX hx3 (fun hr4 => ?_)
    replace hr4 := hr4.symm
    subst hr4
    refine eX_block_hit ?_
    exact eX_J (fun hst => ⟨rfl, Fr.of hst (by kernel_rfl), hB, hZ⟩)
  ·rintro a' w26 ⟨hJ, hF5, hB, hZ⟩
   subst hJ
   refine Fr.goX hF5 (by kernel_rfl) ?_
   refine eX_then ?_
   refine cW_seq ?_
   refine cW_region ?_
   refine wS_pure 1 [(2, .slice none 0 0)] (by kernel_rfl) ?_
   refine wS_end (by rfl) ?_
   refine eX_then ?_
   refine cW_ret ?_
   have hq : (some ([]) : Option ((List (Int)))) = some _ := hm
   replace hq := someE hq
   subst hq
   refine eX_ret (vs := [.slice none 0 0]) [.tmp 2] (by rfl) ⟨by (show lkE _ _ _ = _); kernel_rfl, trivial⟩ ?_
   exact ⟨none, 0, [], rfl, Ow.nil _, lowNil, hB⟩

set_option maxRecDepth 100000 in
/-- impl.OddRing -/
theorem c_impl_OddRing {w0 : World} {p0_0 : Int} {l0_1 : List (List (Int))} {A0_1 : Option Addr} {cap0_1 : Nat} {fp0_1 : List Nat} {l0_2 : List (List (Int))} {A0_2 : Option Addr} {cap0_2 : Nat} {fp0_2 : List Nat} {l0_3 : List (Int)} {A0_3 : Option Addr} {cap0_3 : Nat} {fp0_3 : List Nat} {r : (List (Int)) × (Bool)} (hm : m_impl_OddRing p0_0 l0_1 l0_2 l0_3 = some r) (F0_1 : SlR 1 encI w0 fp0_1 A0_1 l0_1) (F0_2 : SlR 1 encI w0 fp0_2 A0_2 l0_2) (F0_3 : Sl 1 encI w0 fp0_3 A0_3 l0_3) :
  Calls Try.prog 14 #[.agg #[.int .i64 (p0_0), .slice A0_1 (l0_1).length cap0_1, .slice A0_2 (l0_2).length cap0_2, .slice A0_3 (l0_3).length cap0_3]] w0 fun e w' => ∃ A1 cap100 fp100, e = .returned (.tuple #[.slice A1 (r.1).length cap100, .bool (r.2)]) ∧ Ow 1 encI 2 w' fp100 A1 cap100 r.1 ∧ (∀ x ∈ fp100, w0.heap.size ≤ x) ∧ Chg [] w0 w' := by
 have L0_1 := F0_1.low
 have L0_2 := F0_2.low
 have L0_3 := F0_3.low
 have hB : Chg [] w0 w0 := Chg.refl _ _
 have hZ := Nat.le_refl w0.heap.size
 unfold m_impl_OddRing at hm
 refine enterE (N := 27) Try.func14 (by rfl) Try.ntmps14 (by simp) [(0, .agg #[.int .i64 (p0_0), .slice A0_1 (l0_1).length cap0_1, .slice A0_2 (l0_2).length cap0_2, .slice A0_3 (l0_3).length cap0_3])] (by rfl) (by kernel_rfl) (fun a => ?_)
 refine cW_seq ?_
 refine cW_region ?_
 refine wS_box (d := 1) (T := 27) (x := .agg #[.int .i64 (p0_0), .slice A0_1 (l0_1).length cap0_1, .slice A0_2 (l0_2).length cap0_2, .slice A0_3 (l0_3).length cap0_3]) (by kernel_rfl) ?_
 intro b1 w1 G1 F1 hc1
 replace F1 : Cl w1 b1 27 [.int .i64 (p0_0), .slice A0_1 (l0_1).length cap0_1, .slice A0_2 (l0_2).length cap0_2, .slice A0_3 (l0_3).length cap0_3] := F1
 replace F0_1 := F0_1.chg hc1 Dj.nil
 replace F0_2 := F0_2.chg hc1 Dj.nil
 replace F0_3 := F0_3.chg hc1 Dj.nil
 replace hB := hB.inS hc1 inNil
 replace G1 := Nat.le_trans hZ G1
 replace hZ := Nat.le_trans hZ hc1.size
 refine wS_pure 2 [(3, .bool (false)), (2, .slice none 0 0)] (by kernel_rfl) ?_
 refine wS_end (by rfl) ?_
 refine eX_then ?_
 refine cW_seq ?_
 refine cW_seq ?_
 refine cW_region ?_
 refine wS_loadA (d := 7) (T := 27) (ad := ⟨b1, 0, none⟩) (vs := [.int .i64 (p0_0), .slice A0_1 (l0_1).length cap0_1, .slice A0_2 (l0_2).length cap0_2, .slice A0_3 (l0_3).length cap0_3]) (by kernel_rfl) vt27 (fun i u hu => box_cells F1 0 hu (by rfl)) ?_
 obtain ⟨y1, hy1, hm⟩ := bindE hm
 refine wS_calls (d := 8) (f := 16) (vs := [.agg #[.int .i64 (p0_0), .slice A0_1 (l0_1).length cap0_1, .slice A0_2 (l0_2).length cap0_2, .slice A0_3 (l0_3).length cap0_3]]) (by kernel_rfl) ent16 (c_impl_ValidWiring hy1 F0_1 F0_2 F0_3) ?_
 rintro _ w2 ⟨rfl, hc2⟩
 replace F0_1 := F0_1.chg hc2 Dj.nil
 replace F0_2 := F0_2.chg hc2 Dj.nil
 replace F0_3 := F0_3.chg hc2 Dj.nil
 replace F1 := F1.chg hc2 notNil
 replace hB := hB.inS hc2 inNil
 replace hZ := Nat.le_trans hZ hc2.size
 refine ⟨.bool (y1), rfl, ?_⟩
 refine wS_pure 1 [(9, .bool (!y1))] (by kernel_rfl) ?_
 refine wS_end (by rfl) ?_
 refine eX_then ?_
 refine cW_cond (t := !y1) (by kernel_rfl) (fun hb1 => ?_) (fun hb1 => ?_)
 ·have hm := condT hb1 hm
  refine cW_seq ?_
  refine cW_region ?_
  refine wS_pure 2 [(3, .bool (false)), (2, .slice none 0 0)] (by kernel_rfl) ?_
  refine wS_end (by rfl) ?_
  refine eX_then ?_
  refine cW_ret ?_
  refine eX_then_ret ?_
  have hq : (some (([], false)) : Option ((List (Int)) × (Bool))) = some _ := hm
  replace hq := someE hq
  subst hq
  refine eX_ret (vs := [.slice none 0 0, .bool (false)]) [.tmp 2, .tmp 3] (by rfl) ⟨by (show lkE _ _ _ = _); kernel_rfl, ⟨by (show lkE _ _ _ = _); kernel_rfl, trivial⟩⟩ ?_
  exact ⟨none, 0, [], rfl, Ow.nil _, lowNil, hB⟩
 ·have hm := condF hb1 hm
  refine cW_skip ?_
  refine eX_then ?_
  refine cW_seq ?_
  refine cW_region ?_
  refine wS_bs0 (α := Int) (enc := encI) (d := 10) (t := 25) (T := 2) (by kernel_rfl) el25 ?_
  intro b2 w3 G2 F2 hc3
  have D1 : Dj [b1] [b2] := Dj.of (lt1 F1.lt) (low1 G2)
  replace F0_1 := F0_1.chg hc3 Dj.nil
  replace F0_2 := F0_2.chg hc3 Dj.nil
  replace F0_3 := F0_3.chg hc3 Dj.nil
  replace F1 := F1.chg hc3 notNil
  replace hB := hB.inS hc3 inNil
  replace G2 := Nat.le_trans hZ G2
  replace G2 := low1 G2
  replace hZ := Nat.le_trans hZ hc3.size
  refine wS_pure 1 [(4, .slice (some ⟨b2, 0, none⟩) (([] : List (Int))).length 0)] (by kernel_rfl) ?_
  refine wS_end (by rfl) ?_
  refine eX_then ?_
  refine cW_seq ?_
  refine cW_seq ?_
  refine cW_region ?_
  obtain ⟨y2, hy2, hm⟩ := bindE hm
  refine wS_calls (d := 11) (f := 55) (vs := [.pointer (some ⟨b1, 0, none⟩)]) (by kernel_rfl) ent55 (c_impl_Wiring_crossed_bimplWiring hy2 F0_1 F0_2 F0_3 F1) ?_
  rintro _ w4 ⟨A3, cap1, fp1, fr1, rfl, F3, G3, hc4⟩
  have D2 : Dj [b1] (fp1 ++ fr1) := Dj.of (lt1 F1.lt) G3
  have D3 : Dj [b2] (fp1 ++ fr1) := Dj.of F2.low G3
  replace F0_1 := F0_1.chg hc4 Dj.nil
  replace F0_2 := F0_2.chg hc4 Dj.nil
  replace F0_3 := F0_3.chg hc4 Dj.nil
  replace F1 := F1.chg hc4 notNil
  replace F2 := F2.chg hc4 Dj.nil
  replace hB := hB.inS hc4 inNil
  replace G3 := low_le hZ G3
  replace hZ := Nat.le_trans hZ hc4.size
  refine ⟨.slice A3 (y2).length cap1, rfl, ?_⟩
  obtain ⟨y3, hy3, hm⟩ := bindE hm
  refine wS_calls (d := 12) (f := 56) (vs := [.slice A3 (y2).length cap1]) (by kernel_rfl) ent56 (c_impl_graph_oddRing hy3 (F3.slr encI_ok)) ?_
  rintro _ w5 ⟨A4, cap3, fp2, rfl, F4, G4, hc5⟩
  have D4 : Dj [b1] fp2 := Dj.of (lt1 F1.lt) G4
  have D5 : Dj [b2] fp2 := Dj.of F2.low G4
  have D6 : Dj (fp1 ++ fr1) fp2 := Dj.of F3.low G4
  replace F0_1 := F0_1.chg hc5 Dj.nil
  replace F0_2 := F0_2.chg hc5 Dj.nil
  replace F0_3 := F0_3.chg hc5 Dj.nil
  replace F1 := F1.chg hc5 notNil
  replace F2 := F2.chg hc5 Dj.nil
  replace F3 := F3.chg hc5 Dj.nil
  replace hB := hB.inS hc5 inNil
  replace G4 := low_le hZ G4
  replace hZ := Nat.le_trans hZ hc5.size
  refine ⟨.slice A4 (y3).length cap3, rfl, ?_⟩
  refine wS_pure 2 [(14, .int .i64 (0)), (13, .int .i64 (((y3).length : Int)))] (by kernel_rfl) ?_
  refine wS_end (by rfl) ?_
  refine eX_then ?_
  obtain ⟨r1, hr1, hm⟩ := bindE hm
  have hm1 := hm
  refine cW_cut (fun a' w' => ∃ l1 : List (Int), ∃ A5 : Option Addr, ∃ cap4 : Nat, ∃ fp3 : List Nat, l1 = r1 ∧ Fr 27 [(4, .slice A5 (l1).length cap4)] a' ∧ Ow 1 encI 2 w' fp3 A5 cap4 l1 ∧ (∀ x ∈ fp3, w0.heap.size ≤ x) ∧ Chg [] w0 w' ∧ w0.heap.size ≤ w'.heap.size) ?_ ?_
  ·refine cW_block ?_
   refine cW_loop _ (fun (s1 : (List (Int)) × Int) a' w' => ∃ l3 : List (Int), ∃ A6 : Option Addr, ∃ cap5 : Nat, ∃ fp4 : List Nat, ∃ x1 : Int, (l3, x1) = s1 ∧ Fr 27 [(4, .slice A6 (l3).length cap5), (12, .slice A4 (y3).length cap3), (13, .int .i64 (((y3).length : Int))), (14, .int .i64 (x1))] a' ∧ Ow 1 encI 3 w' fp2 A4 cap3 y3 ∧ Ow 1 encI 2 w' fp4 A6 cap5 l3 ∧ (∀ x ∈ fp4, w0.heap.size ≤ x) ∧ Dj fp2 fp4 ∧ Chg [] w0 w' ∧ w0.heap.size ≤ w'.heap.size) hr1 (fun hst => ⟨([] : List (Int)), (some ⟨b2, 0, none⟩), 0, [b2], 0, rfl, Fr.of hst (by kernel_rfl), F4, F2, G2, (D5).symm, hB, hZ⟩) ?_
   rintro _ c1 a' w6 ⟨l3, A6, cap5, fp4, x1, rfl, hF1, F5, F6, G5, D7, hB, hZ⟩ hx1
   refine Fr.goOn hF1 (by kernel_rfl) ?_
   have hm := hx1
   unfold m_impl_OddRing_s1 at hm
   refine cW_seq ?_
   refine cW_region ?_
   refine wS_pure 1 [(15, .bool (decide (x1 < (((y3).length : Int)))))] (by kernel_rfl) ?_
   refine wS_end (by rfl) ?_
   refine eX_then ?_
   refine cW_seq ?_
   refine cW_cond (t := decide (x1 < (((y3).length : Int)))) (by kernel_rfl) (fun hb2 => ?_) (fun hb2 => ?_)
   ·have hm := condT hb2 hm
    refine cW_skip ?_
    refine eX_then ?_
    refine cW_seq ?_
    refine cW_block ?_
    refine cW_seq ?_
    refine cW_region ?_
    obtain ⟨x2, hx2, hm⟩ := bindE hm
    refine wS_idx (d := 16) (T := 75) (A := A4) (n := (y3).length) (cap := cap3) (kd := .i64) (m := x1) (by kernel_rfl) sl75 ((F5.sl encI_ok).is hx2) ?_
    refine wS_load1 (d := 17) (T := 3) (ad := (elA A4 1 (x1) 0)) (v := .int .i64 (x2)) (by kernel_rfl) vt3 (Sl.cell (F5.sl encI_ok) hx2 0 (by rfl)) ?_
    refine wS_pure 1 [(6, .int .i64 (x2))] (by kernel_rfl) ?_
    refine wS_end (by rfl) ?_
    refine eX_then ?_
    refine cW_region ?_
    refine wS_pure 2 [(19, .int .i64 (x2)), (18, .slice A6 (l3).length cap5)] (by kernel_rfl) ?_
    refine wS_bs (enc := encI) ([x2] : List (Int)) [.int .i64 (x2)] (d := 20) (t := 25) (T := 2) (n := 1) (ps := [(0, .int .i64 (x2))]) (by kernel_rfl) el25 encI_ok (by rfl) (by omega) (by omega) (by kernel_rfl) (by rfl) ?_
    intro b3 w7 G6 F7 hc6
    have D8 : Dj fp2 [b3] := Dj.of F5.low (low1 G6)
    have D9 : Dj fp4 [b3] := Dj.of F6.low (low1 G6)
    replace F5 := F5.chg hc6 Dj.nil
    replace F6 := F6.chg hc6 Dj.nil
    replace hB := hB.inS hc6 inNil
    replace G6 := Nat.le_trans hZ G6
    replace G6 := low1 G6
    replace hZ := Nat.le_trans hZ hc6.size
    obtain ⟨_, hk1, hm⟩ := bindE hm
    replace hk1 := apE hk1
    refine wS_append (enc := encI) (l := (l3 : List (Int))) (l2 := (([x2] : List (Int)) : List (Int))) (d := 21) (t := 25) (T := 2) (A := A6) (A2 := (some ⟨b3, 0, none⟩)) (cap := cap5) (cap2 := 1) (by kernel_rfl) el25 encI_ok F6 (F7.sl encI_ok) (by rfl) hk1 ?_
    intro w8 fp5 A7 cap6 F8 hc7 hp1
    have G7 := low_ap G5 hZ hp1
    have D10 : Dj fp2 fp5 := Dj.ap D7 F5.low hp1
    have D11 : Dj [b3] fp5 := Dj.ap (D9).symm F7.low hp1
    replace F5 := F5.chg hc7 D7
    replace F7 := F7.chg hc7 (D9).symm
    replace hB := hB.inS hc7 (inLow G5)
    replace hZ := Nat.le_trans hZ hc7.size
    refine wS_pure 1 [(4, .slice A7 (l3 ++ (([x2] : List (Int)))).length cap6)] (by kernel_rfl) ?_
    refine wS_end (by rfl) ?_
    refine eX_block ?_
    refine eX_then ?_
    refine cW_region ?_
    refine wS_pure 2 [(14, .int .i64 (wr (x1 + 1))), (22, .int .i64 (wr (x1 + 1)))] (by kernel_rfl) ?_
    refine wS_end (by rfl) ?_
    have hq : (some (Ctl.next ((l3 ++ (([x2] : List (Int))), wr (x1 + 1)))) : Option (Ctl ((List (Int)) × Int) ((List (Int))))) = some _ := hm
    replace hq := someE hq
    subst hq
    exact eX_next hx1 (fun hst => ⟨l3 ++ (([x2] : List (Int))), A7, cap6, fp5, wr (x1 + 1), rfl, Fr.of hst (by kernel_rfl), F5, F8, G7, D10, hB, hZ⟩)
   ·have hm := condF hb2 hm
    refine cW_exit ?_
    refine eX_then_exit ?_
    have hq : (some (Ctl.out l3) : Option (Ctl ((List (Int)) × Int) ((List (Int))))) = some _ := hm
    replace hq := someE hq
    subst hq
    refine eX_outX hx1 (fun hr2 => ?_)
    replace hr2 := hr2.symm
    subst hr2
    refine eX_block_hit ?_
    exact eX_J (fun hst => ⟨l3, A6, cap5, fp4, rfl, Fr.of hst (by kernel_rfl), F6, G5, hB, hZ⟩)
  ·rintro a' w9 ⟨l1, A5, cap4, fp3, hJ, hF2, F9, G8, hB, hZ⟩
   subst hJ
   refine Fr.goX hF2 (by kernel_rfl) ?_
   refine eX_then ?_
   refine cW_seq ?_
   refine cW_region ?_
   refine wS_pure 6 [(3, .bool (decide ((((l1).length : Int)) > 0))), (2, .slice A5 (l1).length cap4), (26, .bool (decide ((((l1).length : Int)) > 0))), (25, .int .i64 (((l1).length : Int))), (24, .slice A5 (l1).length cap4), (23, .slice A5 (l1).length cap4)] (by kernel_rfl) ?_
   refine wS_end (by rfl) ?_
   refine eX_then ?_
   refine cW_ret ?_
   have hq : (some ((l1, decide ((((l1).length : Int)) > 0))) : Option ((List (Int)) × (Bool))) = some _ := hm
   replace hq := someE hq
   subst hq
   refine eX_ret (vs := [.slice A5 (l1).length cap4, .bool (decide ((((l1).length : Int)) > 0))]) [.tmp 2, .tmp 3] (by rfl) ⟨by (show lkE _ _ _ = _); kernel_rfl, ⟨by (show lkE _ _ _ = _); kernel_rfl, trivial⟩⟩ ?_
   exact ⟨A5, cap4, fp3, rfl, F9, G8, hB⟩

set_option maxRecDepth 100000 in
/-- impl.CountBest -/
theorem c_impl_CountBest {w0 : World} {p0_0 : Int} {l0_1 : List (List (Int))} {A0_1 : Option Addr} {cap0_1 : Nat} {fp0_1 : List Nat} {l0_2 : List (List (Int))} {A0_2 : Option Addr} {cap0_2 : Nat} {fp0_2 : List Nat} {l0_3 : List (Int)} {A0_3 : Option Addr} {cap0_3 : Nat} {fp0_3 : List Nat} {r : (Int) × (Bool)} (hm : m_impl_CountBest p0_0 l0_1 l0_2 l0_3 = some r) (F0_1 : SlR 1 encI w0 fp0_1 A0_1 l0_1) (F0_2 : SlR 1 encI w0 fp0_2 A0_2 l0_2) (F0_3 : Sl 1 encI w0 fp0_3 A0_3 l0_3) :
  Calls Try.prog 15 #[.agg #[.int .i64 (p0_0), .slice A0_1 (l0_1).length cap0_1, .slice A0_2 (l0_2).length cap0_2, .slice A0_3 (l0_3).length cap0_3]] w0 fun e w' => e = .returned (.tuple #[.int .i64 (r.1), .bool (r.2)]) ∧ Chg [] w0 w' := by
 have L0_1 := F0_1.low
 have L0_2 := F0_2.low
 have L0_3 := F0_3.low
 have hB : Chg [] w0 w0 := Chg.refl _ _
 have hZ := Nat.le_refl w0.heap.size
 unfold m_impl_CountBest at hm
 refine enterE (N := 16) Try.func15 (by rfl) Try.ntmps15 (by simp) [(0, .agg #[.int .i64 (p0_0), .slice A0_1 (l0_1).length cap0_1, .slice A0_2 (l0_2).length cap0_2, .slice A0_3 (l0_3).length cap0_3])] (by rfl) (by kernel_rfl) (fun a => ?_)
 refine cW_seq ?_
 refine cW_region ?_
 refine wS_box (d := 1) (T := 27) (x := .agg #[.int .i64 (p0_0), .slice A0_1 (l0_1).length cap0_1, .slice A0_2 (l0_2).length cap0_2, .slice A0_3 (l0_3).length cap0_3]) (by kernel_rfl) ?_
 intro b1 w1 G1 F1 hc1
 replace F1 : Cl w1 b1 27 [.int .i64 (p0_0), .slice A0_1 (l0_1).length cap0_1, .slice A0_2 (l0_2).length cap0_2, .slice A0_3 (l0_3).length cap0_3] := F1
 replace F0_1 := F0_1.chg hc1 Dj.nil
 replace F0_2 := F0_2.chg hc1 Dj.nil
 replace F0_3 := F0_3.chg hc1 Dj.nil
 replace hB := hB.inS hc1 inNil
 replace G1 := Nat.le_trans hZ G1
 replace hZ := Nat.le_trans hZ hc1.size
 refine wS_pure 2 [(3, .bool (false)), (2, .int .i64 (0))] (by kernel_rfl) ?_
 refine wS_end (by rfl) ?_
 refine eX_then ?_
 refine cW_seq ?_
 refine cW_seq ?_
 refine cW_region ?_
 refine wS_loadA (d := 7) (T := 27) (ad := ⟨b1, 0, none⟩) (vs := [.int .i64 (p0_0), .slice A0_1 (l0_1).length cap0_1, .slice A0_2 (l0_2).length cap0_2, .slice A0_3 (l0_3).length cap0_3]) (by kernel_rfl) vt27 (fun i u hu => box_cells F1 0 hu (by rfl)) ?_
 obtain ⟨y1, hy1, hm⟩ := bindE hm
 refine wS_calls (d := 8) (f := 16) (vs := [.agg #[.int .i64 (p0_0), .slice A0_1 (l0_1).length cap0_1, .slice A0_2 (l0_2).length cap0_2, .slice A0_3 (l0_3).length cap0_3]]) (by kernel_rfl) ent16 (c_impl_ValidWiring hy1 F0_1 F0_2 F0_3) ?_
 rintro _ w2 ⟨rfl, hc2⟩
 replace F0_1 := F0_1.chg hc2 Dj.nil
 replace F0_2 := F0_2.chg hc2 Dj.nil
 replace F0_3 := F0_3.chg hc2 Dj.nil
 replace F1 := F1.chg hc2 notNil
 replace hB := hB.inS hc2 inNil
 replace hZ := Nat.le_trans hZ hc2.size
 refine ⟨.bool (y1), rfl, ?_⟩
 refine wS_pure 1 [(9, .bool (!y1))] (by kernel_rfl) ?_
 refine wS_end (by rfl) ?_
 refine eX_then ?_
 refine cW_cond (t := !y1) (by kernel_rfl) (fun hb1 => ?_) (fun hb1 => ?_)
 ·have hm := condT hb1 hm
  refine cW_seq ?_
  refine cW_region ?_
  refine wS_pure 2 [(3, .bool (false)), (2, .int .i64 (0))] (by kernel_rfl) ?_
  refine wS_end (by rfl) ?_
  refine eX_then ?_
  refine cW_ret ?_
  refine eX_then_ret ?_
  have hq : (some ((0, false)) : Option ((Int) × (Bool))) = some _ := hm
  replace hq := someE hq
  subst hq
  refine eX_ret (vs := [.int .i64 (0), .bool (false)]) [.tmp 2, .tmp 3] (by rfl) ⟨by (show lkE _ _ _ = _); kernel_rfl, ⟨by (show lkE _ _ _ = _); kernel_rfl, trivial⟩⟩ ?_
  exact ⟨rfl, hB⟩
 ·have hm := condF hb1 hm
  refine cW_skip ?_
  refine eX_then ?_
  refine cW_seq ?_
  refine cW_region ?_
  obtain ⟨y2, hy2, hm⟩ := bindE hm
  refine wS_calls (d := 11) (f := 54) (vs := [.pointer (some ⟨b1, 0, none⟩)]) (by kernel_rfl) ent54 (c_impl_Wiring_best_bimplWiring hy2 F0_1 F0_2 F0_3 F1) ?_
  rintro _ w3 ⟨A1, cap1, fp1, rfl, F2, G2, hc3⟩
  have D1 : Dj [b1] fp1 := Dj.of (lt1 F1.lt) G2
  replace F0_1 := F0_1.chg hc3 Dj.nil
  replace F0_2 := F0_2.chg hc3 Dj.nil
  replace F0_3 := F0_3.chg hc3 Dj.nil
  replace F1 := F1.chg hc3 notNil
  replace hB := hB.inS hc3 inNil
  replace G2 := low_le hZ G2
  replace hZ := Nat.le_trans hZ hc3.size
  refine ⟨.tuple #[.slice A1 (y2.1).length cap1, .int .i64 (y2.2.1), .int .i64 (y2.2.2)], rfl, ?_⟩
  refine wS_pure 7 [(6, .int .i64 (y2.2.2)), (5, .int .i64 (y2.2.1)), (4, .slice A1 (y2.1).length cap1), (14, .int .i64 (y2.2.2)), (13, .int .i64 (y2.2.1)), (12, .slice A1 (y2.1).length cap1), (10, .tuple #[.slice A1 (y2.1).length cap1, .int .i64 (y2.2.1), .int .i64 (y2.2.2)])] (by kernel_rfl) ?_
  refine wS_end (by rfl) ?_
  refine eX_then ?_
  refine cW_seq ?_
  refine cW_region ?_
  refine wS_pure 3 [(3, .bool (true)), (2, .int .i64 (y2.2.2)), (15, .int .i64 (y2.2.2))] (by kernel_rfl) ?_
  refine wS_end (by rfl) ?_
  refine eX_then ?_
  refine cW_ret ?_
  have hq : (some ((y2.2.2, true)) : Option ((Int) × (Bool))) = some _ := hm
  replace hq := someE hq
  subst hq
  refine eX_ret (vs := [.int .i64 (y2.2.2), .bool (true)]) [.tmp 2, .tmp 3] (by rfl) ⟨by (show lkE _ _ _ = _); kernel_rfl, ⟨by (show lkE _ _ _ = _); kernel_rfl, trivial⟩⟩ ?_
  exact ⟨rfl, hB⟩

set_option maxRecDepth 100000 in
/-- spec.l00In -/
theorem c_spec_l00In {w0 : World} {p0 : Int} {p1 : Int} {p2 : Int} {r : (Bool)} (hm : m_spec_l00In p0 p1 p2 = some r)  :
  Calls Try.prog 87 #[.int .i64 (p0), .int .i64 (p1), .int .i64 (p2)] w0 fun e w' => e = .returned (.bool (r)) ∧ Chg [] w0 w' := by
 have hB : Chg [] w0 w0 := Chg.refl _ _
 have hZ := Nat.le_refl w0.heap.size
 unfold m_spec_l00In at hm
 refine enterE (N := 15) Try.func87 (by rfl) Try.ntmps87 (by simp) [(0, .int .i64 (p0)), (1, .int .i64 (p1)), (2, .int .i64 (p2))] (by rfl) (by kernel_rfl) (fun a => ?_)
 refine cW_seq ?_
 refine cW_region ?_
 refine wS_pure 1 [(6, .bool (false))] (by kernel_rfl) ?_
 refine wS_end (by rfl) ?_
 refine eX_then ?_
 refine cW_seq ?_
 refine cW_region ?_
 refine wS_pure 4 [(10, .bool (decide (p0 ≥ p1))), (9, .bool (decide (p0 ≥ p1))), (8, .int .i64 (p1)), (7, .int .i64 (p0))] (by kernel_rfl) ?_
 refine wS_bool (decide (p0 ≥ p1)) (fun hb1 => ?_) (fun hb1 => ?_)
 ·have hm := condT hb1 hm
  rewrite [hb1]
  refine wS_pure 5 [(6, .bool (decide (p0 ≤ p2))), (14, .bool (decide (p0 ≤ p2))), (13, .bool (decide (p0 ≤ p2))), (12, .int .i64 (p2)), (11, .int .i64 (p0))] (by kernel_rfl) ?_
  refine wS_end (by rfl) ?_
  refine eX_then ?_
  refine cW_ret ?_
  have hq : (some (decide (p0 ≤ p2)) : Option ((Bool))) = some _ := hm
  replace hq := someE hq
  subst hq
  refine eX_ret (vs := [.bool (decide (p0 ≤ p2))]) [.tmp 6] (by rfl) ⟨by (show lkE _ _ _ = _); kernel_rfl, trivial⟩ ?_
  exact ⟨rfl, hB⟩
 ·have hm := condF hb1 hm
  rewrite [hb1]
  refine wS_pure 5 [(6, .bool (false)), (14, .bool (false)), (13, undef), (12, undef), (11, undef)] (by kernel_rfl) ?_
  refine wS_end (by rfl) ?_
  refine eX_then ?_
  refine cW_ret ?_
  have hq : (some false : Option ((Bool))) = some _ := hm
  replace hq := someE hq
  subst hq
  refine eX_ret (vs := [.bool (false)]) [.tmp 6] (by rfl) ⟨by (show lkE _ _ _ = _); kernel_rfl, trivial⟩ ?_
  exact ⟨rfl, hB⟩

set_option maxRecDepth 100000 in
/-- spec.l03Less -/
theorem c_spec_l03Less {w0 : World} {l0 : List (Int)} {A0 : Option Addr} {cap0 : Nat} {fp0 : List Nat} {l1 : List (Int)} {A1 : Option Addr} {cap1 : Nat} {fp1 : List Nat} {r : (Bool)} (hm : m_spec_l03Less l0 l1 = some r) (F0 : Sl 1 encI w0 fp0 A0 l0) (F1 : Sl 1 encI w0 fp1 A1 l1) :
  Calls Try.prog 128 #[.slice A0 (l0).length cap0, .slice A1 (l1).length cap1] w0 fun e w' => e = .returned (.bool (r)) ∧ Chg [] w0 w' := by
 have L0 := F0.low
 have L1 := F1.low
 have hB : Chg [] w0 w0 := Chg.refl _ _
 have hZ := Nat.le_refl w0.heap.size
 unfold m_spec_l03Less at hm
 refine enterE (N := 41) Try.func128 (by rfl) Try.ntmps128 (by simp) [(0, .slice A0 (l0).length cap0), (1, .slice A1 (l1).length cap1)] (by rfl) (by kernel_rfl) (fun a => ?_)
 refine cW_seq ?_
 refine cW_region ?_
 refine wS_pure 1 [(4, .bool (false))] (by kernel_rfl) ?_
 refine wS_end (by rfl) ?_
 refine eX_then ?_
 refine cW_seq ?_
 refine cW_seq ?_
 refine cW_region ?_
 refine wS_pure 1 [(5, .int .i64 (0))] (by kernel_rfl) ?_
 refine wS_end (by rfl) ?_
 refine eX_then ?_
 obtain ⟨r1, hr1, hm⟩ := bindE hm
 have hm1 := hm
 refine cW_cut (fun a' w' => Sum.inl (()) = r1 ∧ Fr 41 [(0, .slice A0 (l0).length cap0), (1, .slice A1 (l1).length cap1)] a' ∧ Sl 1 encI w' fp0 A0 l0 ∧ Sl 1 encI w' fp1 A1 l1 ∧ Chg [] w0 w' ∧ w0.heap.size ≤ w'.heap.size) ?_ ?_
 ·refine cW_block ?_
  refine cW_loop _ (fun (s1 : Int) a' w' => ∃ x1 : Int, x1 = s1 ∧ Fr 41 [(0, .slice A0 (l0).length cap0), (1, .slice A1 (l1).length cap1), (5, .int .i64 (x1))] a' ∧ Sl 1 encI w' fp0 A0 l0 ∧ Sl 1 encI w' fp1 A1 l1 ∧ Chg [] w0 w' ∧ w0.heap.size ≤ w'.heap.size) hr1 (fun hst => ⟨0, rfl, Fr.of hst (by kernel_rfl), F0, F1, hB, hZ⟩) ?_
  rintro _ c1 a' w1 ⟨x1, rfl, hF1, F2, F3, hB, hZ⟩ hx1
  refine Fr.goOn hF1 (by kernel_rfl) ?_
  have hm := hx1
  unfold m_spec_l03Less_s1 at hm
  refine cW_seq ?_
  refine cW_seq ?_
  refine cW_region ?_
  refine wS_pure 5 [(10, .bool (decide (x1 < (((l0).length : Int))))), (9, .bool (decide (x1 < (((l0).length : Int))))), (8, .int .i64 (((l0).length : Int))), (7, .slice A0 (l0).length cap0), (6, .int .i64 (x1))] (by kernel_rfl) ?_
  refine wS_bool (decide (x1 < (((l0).length : Int)))) (fun hb1 => ?_) (fun hb1 => ?_)
  ·have hm := condT hb1 hm
   rewrite [hb1]
   refine wS_pure 5 [(15, .bool (decide (x1 < (((l1).length : Int))))), (14, .bool (decide (x1 < (((l1).length : Int))))), (13, .int .i64 (((l1).length : Int))), (12, .slice A1 (l1).length cap1), (11, .int .i64 (x1))] (by kernel_rfl) ?_
   refine wS_end (by rfl) ?_
   refine eX_then ?_
   refine cW_cond (t := decide (x1 < (((l1).length : Int)))) (by kernel_rfl) (fun hb2 => ?_) (fun hb2 => ?_)
   ·have hm := condT hb2 hm
    refine cW_skip ?_
    refine eX_then ?_
    refine cW_seq ?_
    refine cW_block ?_
    refine cW_seq ?_
    refine cW_drawnTail [] 8 (by kernel_rfl) (by kernel_rfl) (fun w2 hc1 => ?_)
    replace F2 := F2.chg hc1 Dj.nil
    replace F3 := F3.chg hc1 Dj.nil
    replace hB := hB.inS hc1 inNil
    replace hZ := Nat.le_trans hZ hc1.size
    have hS := Chg.refl [] w2
    have Z1 := F2
    have Z2 := F3
    refine wH_take [0, 1] [1, 0] [(19, .int .i64 (x1)), (18, .slice A0 (l0).length cap0)] (by kernel_rfl) (qT (qT (qB (qT (qL (qB (qT (qT qZ)))))))) (by kernel_rfl) ?_
    obtain ⟨x2, hx2, hm⟩ := bindE hm
    refine wH_idx (i := 2) (d := 20) (T := 25) (A := A0) (n := (l0).length) (cap := cap0) (kd := .i64) (m := x1) (by kernel_rfl) (qT (qT (qB (qT (qL (qB (qT (qT qZ)))))))) (by kernel_rfl) (by kernel_rfl) sl25 (F2.is hx2) ?_
    refine wH_load1 (i := 3) (d := 21) (T := 2) (ad := (elA A0 1 (x1) 0)) (v := .int .i64 (x2)) (by kernel_rfl) (qT (qT (qB (qT (qL (qB (qT (qT qZ)))))))) (by kernel_rfl) (by kernel_rfl) vt2 (fun W hW => Sl.cell (Z1.chg hW Dj.nil) hx2 0 (by rfl)) ?_
    refine wH_take [4, 5] [5, 4, 3, 2, 1, 0] [(23, .int .i64 (x1)), (22, .slice A1 (l1).length cap1)] (by kernel_rfl) (qT (qT (qB (qT (qL (qB (qT (qT qZ)))))))) (by kernel_rfl) ?_
    obtain ⟨x3, hx3, hm⟩ := bindE hm
    refine wH_idx (i := 6) (d := 24) (T := 25) (A := A1) (n := (l1).length) (cap := cap1) (kd := .i64) (m := x1) (by kernel_rfl) (qT (qT (qB (qT (qL (qB (qT (qT qZ)))))))) (by kernel_rfl) (by kernel_rfl) sl25 (F3.is hx3) ?_
    refine wH_load1 (i := 7) (d := 25) (T := 2) (ad := (elA A1 1 (x1) 0)) (v := .int .i64 (x3)) (by kernel_rfl) (qT (qT (qB (qT (qL (qB (qT (qT qZ)))))))) (by kernel_rfl) (by kernel_rfl) vt2 (fun W hW => Sl.cell (Z2.chg hW Dj.nil) hx3 0 (by rfl)) ?_
    refine wH_done (by kernel_rfl) ?_
    refine eX_tail ?_
    refine wS_pure 1 [(26, .bool (x2 != x3))] (by kernel_rfl) ?_
    refine wS_end (by rfl) ?_
    refine eX_then ?_
    refine cW_cond (t := x2 != x3) (by kernel_rfl) (fun hb3 => ?_) (fun hb3 => ?_)
    ·have hm := condT hb3 hm
     refine cW_seq ?_
     refine cW_drawnTail [] 8 (by kernel_rfl) (by kernel_rfl) (fun w3 hc2 => ?_)
     replace F2 := F2.chg hc2 Dj.nil
     replace F3 := F3.chg hc2 Dj.nil
     replace hB := hB.inS hc2 inNil
     replace hZ := Nat.le_trans hZ hc2.size
     have hS := Chg.refl [] w3
     have Z3 := F2
     have Z4 := F3
     refine wH_take [0, 1] [1, 0] [(28, .int .i64 (x1)), (27, .slice A0 (l0).length cap0)] (by kernel_rfl) (qT (qT (qB (qT (qL (qB (qT (qT qZ)))))))) (by kernel_rfl) ?_
     obtain ⟨x4, hx4, hm⟩ := bindE hm
     refine wH_idx (i := 2) (d := 29) (T := 25) (A := A0) (n := (l0).length) (cap := cap0) (kd := .i64) (m := x1) (by kernel_rfl) (qT (qT (qB (qT (qL (qB (qT (qT qZ)))))))) (by kernel_rfl) (by kernel_rfl) sl25 (F2.is hx4) ?_
     refine wH_load1 (i := 3) (d := 30) (T := 2) (ad := (elA A0 1 (x1) 0)) (v := .int .i64 (x4)) (by kernel_rfl) (qT (qT (qB (qT (qL (qB (qT (qT qZ)))))))) (by kernel_rfl) (by kernel_rfl) vt2 (fun W hW => Sl.cell (Z3.chg hW Dj.nil) hx4 0 (by rfl)) ?_
     refine wH_take [4, 5] [5, 4, 3, 2, 1, 0] [(32, .int .i64 (x1)), (31, .slice A1 (l1).length cap1)] (by kernel_rfl) (qT (qT (qB (qT (qL (qB (qT (qT qZ)))))))) (by kernel_rfl) ?_
     obtain ⟨x5, hx5, hm⟩ := bindE hm
     refine wH_idx (i := 6) (d := 33) (T := 25) (A := A1) (n := (l1).length) (cap := cap1) (kd := .i64) (m := x1) (by kernel_rfl) (qT (qT (qB (qT (qL (qB (qT (qT qZ)))))))) (by kernel_rfl) (by kernel_rfl) sl25 (F3.is hx5) ?_
     refine wH_load1 (i := 7) (d := 34) (T := 2) (ad := (elA A1 1 (x1) 0)) (v := .int .i64 (x5)) (by kernel_rfl) (qT (qT (qB (qT (qL (qB (qT (qT qZ)))))))) (by kernel_rfl) (by kernel_rfl) vt2 (fun W hW => Sl.cell (Z4.chg hW Dj.nil) hx5 0 (by rfl)) ?_
     refine wH_done (by kernel_rfl) ?_
     refine eX_tail ?_
     refine wS_pure 2 [(4, .bool (decide (x4 < x5))), (35, .bool (decide (x4 < x5)))] (by kernel_rfl) ?_
     refine wS_end (by rfl) ?_
     refine eX_then ?_
     refine cW_prune [(4, .bool (decide (x4 < x5)))] (by kernel_rfl) (by kernel_rfl) (fun a1 => ?_)
     refine cW_ret ?_
     refine eX_block_ret ?_
     refine eX_then_ret ?_
     have hq : (some (Ctl.out (Sum.inr (decide (x4 < x5)))) : Option (Ctl (Int) (Sum (Unit) ((Bool))))) = some _ := hm
     replace hq := someE hq
     subst hq
     refine eX_outR hx1 (fun hr => ?_)
     subst hr
     refine eX_block_ret ?_
     refine eX_then_ret ?_
     refine eX_then_ret ?_
     have hq : (some (decide (x4 < x5)) : Option ((Bool))) = some _ := hm1
     replace hq := someE hq
     subst hq
     refine eX_ret (vs := [.bool (decide (x4 < x5))]) [.tmp 4] (by rfl) ⟨by (show lkE _ _ _ = _); kernel_rfl, trivial⟩ ?_
     exact ⟨rfl, hB⟩
    ·have hm := condF hb3 hm
     refine cW_skip ?_
     refine eX_block ?_
     refine eX_then ?_
     refine cW_region ?_
     refine wS_pure 3 [(5, .int .i64 (wr (x1 + 1))), (17, .int .i64 (wr (x1 + 1))), (16, .int .i64 (x1))] (by kernel_rfl) ?_
     refine wS_end (by rfl) ?_
     have hq : (some (Ctl.next (wr (x1 + 1))) : Option (Ctl (Int) (Sum (Unit) ((Bool))))) = some _ := hm
     replace hq := someE hq
     subst hq
     exact eX_next hx1 (fun hst => ⟨wr (x1 + 1), rfl, Fr.of hst (by kernel_rfl), F2, F3, hB, hZ⟩)
   ·have hm := condF hb2 hm
    refine cW_exit ?_
    refine eX_then_exit ?_
    have hq : (some (Ctl.out (Sum.inl (()))) : Option (Ctl (Int) (Sum (Unit) ((Bool))))) = some _ := hm
    replace hq := someE hq
    subst hq
    refine eX_outX hx1 (fun hr2 => ?_)
    replace hr2 := hr2.symm
    subst hr2
    refine eX_block_hit ?_
    exact eX_J (fun hst => ⟨rfl, Fr.of hst (by kernel_rfl), F2, F3, hB, hZ⟩)
  ·have hm := condF hb1 hm
   rewrite [hb1]
   refine wS_pure 5 [(15, .bool (false)), (14, undef), (13, undef), (12, undef), (11, undef)] (by kernel_rfl) ?_
   refine wS_end (by rfl) ?_
   refine eX_then ?_
   refine cW_cond_f (by kernel_rfl) ?_
   refine cW_exit ?_
   refine eX_then_exit ?_
   have hq : (some (Ctl.out (Sum.inl (()))) : Option (Ctl (Int) (Sum (Unit) ((Bool))))) = some _ := hm
   replace hq := someE hq
   subst hq
   refine eX_outX hx1 (fun hr3 => ?_)
   replace hr3 := hr3.symm
   subst hr3
   refine eX_block_hit ?_
   exact eX_J (fun hst => ⟨rfl, Fr.of hst (by kernel_rfl), F2, F3, hB, hZ⟩)
 ·rintro a' w4 ⟨hJ, hF2, F4, F5, hB, hZ⟩
  subst hJ
  refine Fr.goX hF2 (by kernel_rfl) ?_
  refine eX_then ?_
  refine cW_seq ?_
  refine cW_region ?_
  refine wS_pure 6 [(4, .bool (decide ((((l0).length : Int)) < (((l1).length : Int))))), (40, .bool (decide ((((l0).length : Int)) < (((l1).length : Int))))), (39, .int .i64 (((l1).length : Int))), (38, .slice A1 (l1).length cap1), (37, .int .i64 (((l0).length : Int))), (36, .slice A0 (l0).length cap0)] (by kernel_rfl) ?_
  refine wS_end (by rfl) ?_
  refine eX_then ?_
  refine cW_ret ?_
  have hq : (some (decide ((((l0).length : Int)) < (((l1).length : Int)))) : Option ((Bool))) = some _ := hm
  replace hq := someE hq
  subst hq
  refine eX_ret (vs := [.bool (decide ((((l0).length : Int)) < (((l1).length : Int))))]) [.tmp 4] (by rfl) ⟨by (show lkE _ _ _ = _); kernel_rfl, trivial⟩ ?_
  exact ⟨rfl, hB⟩

set_option maxRecDepth 100000 in
/-- spec.l07Lists -/
theorem c_spec_l07Lists {w0 : World} {l0 : List (List (Int))} {A0 : Option Addr} {cap0 : Nat} {fp0 : List Nat} {p1 : Int} {p2 : Int} {r : (Bool)} (hm : m_spec_l07Lists l0 p1 p2 = some r) (F0 : SlR 1 encI w0 fp0 A0 l0) :
  Calls Try.prog 103 #[.slice A0 (l0).length cap0, .int .i64 (p1), .int .i64 (p2)] w0 fun e w' => e = .returned (.bool (r)) ∧ Chg [] w0 w' := by
 have L0 := F0.low
 have hB : Chg [] w0 w0 := Chg.refl _ _
 have hZ := Nat.le_refl w0.heap.size
 unfold m_spec_l07Lists at hm
 refine enterE (N := 71) Try.func103 (by rfl) Try.ntmps103 (by simp) [(0, .slice A0 (l0).length cap0), (1, .int .i64 (p1)), (2, .int .i64 (p2))] (by rfl) (by kernel_rfl) (fun a => ?_)
 refine cW_seq ?_
 refine cW_region ?_
 refine wS_pure 1 [(6, .bool (false))] (by kernel_rfl) ?_
 refine wS_end (by rfl) ?_
 refine eX_then ?_
 refine cW_seq ?_
 refine cW_seq ?_
 refine cW_region ?_
 refine wS_pure 1 [(7, .int .i64 (0))] (by kernel_rfl) ?_
 refine wS_end (by rfl) ?_
 refine eX_then ?_
 obtain ⟨r1, hr1, hm⟩ := bindE hm
 have hm1 := hm
 refine cW_cut (fun a' w' => Sum.inl (()) = r1 ∧ Fr 71 [(0, .slice A0 (l0).length cap0)] a' ∧ SlR 1 encI w' fp0 A0 l0 ∧ Chg [] w0 w' ∧ w0.heap.size ≤ w'.heap.size) ?_ ?_
 ·refine cW_block ?_
  refine cW_loop _ (fun (s1 : Int) a' w' => ∃ x1 : Int, x1 = s1 ∧ Fr 71 [(0, .slice A0 (l0).length cap0), (1, .int .i64 (p1)), (2, .int .i64 (p2)), (7, .int .i64 (x1))] a' ∧ SlR 1 encI w' fp0 A0 l0 ∧ Chg [] w0 w' ∧ w0.heap.size ≤ w'.heap.size) hr1 (fun hst => ⟨0, rfl, Fr.of hst (by kernel_rfl), F0, hB, hZ⟩) ?_
  rintro _ c1 a' w1 ⟨x1, rfl, hF1, F1, hB, hZ⟩ hx1
  refine Fr.goOn hF1 (by kernel_rfl) ?_
  have hm := hx1
  unfold m_spec_l07Lists_s1 at hm
  refine cW_seq ?_
  refine cW_seq ?_
  refine cW_region ?_
  refine wS_pure 4 [(12, .bool (decide (x1 < (((l0).length : Int))))), (11, .int .i64 (((l0).length : Int))), (10, .slice A0 (l0).length cap0), (9, .int .i64 (x1))] (by kernel_rfl) ?_
  refine wS_end (by rfl) ?_
  refine eX_then ?_
  refine cW_cond (t := decide (x1 < (((l0).length : Int)))) (by kernel_rfl) (fun hb1 => ?_) (fun hb1 => ?_)
  ·have hm := condT hb1 hm
   refine cW_skip ?_
   refine eX_then ?_
   refine cW_seq ?_
   refine cW_block ?_
   refine cW_seq ?_
   refine cW_region ?_
   refine wS_pure 2 [(16, .int .i64 (x1)), (15, .slice A0 (l0).length cap0)] (by kernel_rfl) ?_
   obtain ⟨x2, hx2, hm⟩ := bindE hm
   refine wS_idx (d := 17) (T := 24) (A := A0) (n := (l0).length) (cap := cap0) (kd := .i64) (m := x1) (by kernel_rfl) sl24 (F1.is hx2) ?_
   obtain ⟨A1, cap1, hc1, F2, K1⟩ := SlR.row F1 hx2
   refine wS_load1 (d := 18) (T := 25) (ad := (elA A0 1 (x1) 0)) (v := .slice A1 (x2).length cap1) (by kernel_rfl) vt25 hc1 ?_
   refine wS_pure 1 [(8, .slice A1 (x2).length cap1)] (by kernel_rfl) ?_
   refine wS_end (by rfl) ?_
   refine eX_then ?_
   refine cW_seq ?_
   refine cW_seq ?_
   refine cW_drawnTail [] 23 (by kernel_rfl) (by kernel_rfl) (fun w2 hc2 => ?_)
   replace F1 := F1.chg hc2 Dj.nil
   replace F2 := F2.chg hc2 Dj.nil
   replace hB := hB.inS hc2 inNil
   replace hZ := Nat.le_trans hZ hc2.size
   have hS := Chg.refl [] w2
   have Z1 := F1
   have Z2 := F2
   refine wH_take [0, 1, 2, 3, 4] [4, 3, 2, 1, 0] [(23, .bool ((((x2).length : Int)) != p2)), (22, .bool ((((x2).length : Int)) != p2)), (21, .int .i64 (p2)), (20, .int .i64 (((x2).length : Int))), (19, .slice A1 (x2).length cap1)] (by kernel_rfl) (qT (qT (qT (qB (qT (qL (qB (qT (qT qZ))))))))) (by kernel_rfl) ?_
   refine wH_bool ((((x2).length : Int)) != p2) (fun hb2 => ?_) (fun hb2 => ?_)
   ·have hm := condT hb2 hm
    rewrite [hb2]
    refine wH_take [5, 6, 7, 8, 9, 10, 11, 12, 13, 14, 15, 16, 17, 18, 19, 20, 21, 22] [22, 21, 20, 19, 18, 17, 16, 15, 14, 13, 12, 11, 10, 9, 8, 7, 6, 5, 4, 3, 2, 1, 0] [(41, undef), (40, undef), (39, undef), (38, undef), (37, undef), (36, undef), (35, undef), (34, undef), (33, undef), (32, .bool (true)), (31, .bool (true)), (30, undef), (29, undef), (28, undef), (27, undef), (26, undef), (25, undef), (24, undef)] (by kernel_rfl) (qT (qT (qT (qB (qT (qL (qB (qT (qT qZ))))))))) (by kernel_rfl) ?_
    refine wH_done (by kernel_rfl) ?_
    refine eX_tail ?_
    refine wS_pure 14 [(55, .bool (true)), (54, undef), (53, undef), (52, undef), (51, undef), (50, undef), (49, undef), (48, undef), (47, undef), (46, undef), (45, .bool (true)), (44, .bool (true)), (43, undef), (42, undef)] (by kernel_rfl) ?_
    refine wS_end (by rfl) ?_
    refine eX_then ?_
    refine cW_prune [(0, .slice A0 (l0).length cap0), (1, .int .i64 (p1)), (2, .int .i64 (p2)), (7, .int .i64 (x1)), (8, .slice A1 (x2).length cap1), (55, .bool (true))] (by kernel_rfl) (by kernel_rfl) (fun a1 => ?_)
    refine cW_cond_t (by kernel_rfl) ?_
    refine cW_seq ?_
    refine cW_region ?_
    refine wS_pure 1 [(6, .bool (false))] (by kernel_rfl) ?_
    refine wS_end (by rfl) ?_
    refine eX_then ?_
    refine cW_ret ?_
    refine eX_then_ret ?_
    refine eX_block_ret ?_
    refine eX_then_ret ?_
    have hq : (some (Ctl.out (Sum.inr false)) : Option (Ctl (Int) (Sum (Unit) ((Bool))))) = some _ := hm
    replace hq := someE hq
    subst hq
    refine eX_outR hx1 (fun hr => ?_)
    subst hr
    refine eX_block_ret ?_
    refine eX_then_ret ?_
    refine eX_then_ret ?_
    have hq : (some false : Option ((Bool))) = some _ := hm1
    replace hq := someE hq
    subst hq
    refine eX_ret (vs := [.bool (false)]) [.tmp 6] (by rfl) ⟨by (show lkE _ _ _ = _); kernel_rfl, trivial⟩ ?_
    exact ⟨rfl, hB⟩
   ·have hm := condF hb2 hm
    rewrite [hb2]
    refine wH_take [5] [5, 4, 3, 2, 1, 0] [(24, .slice A1 (x2).length cap1)] (by kernel_rfl) (qT (qT (qT (qB (qT (qL (qB (qT (qT qZ))))))))) (by kernel_rfl) ?_
    obtain ⟨x3, hx3, hm⟩ := bindE hm
    refine wH_idx (i := 6) (d := 25) (T := 25) (A := A1) (n := (x2).length) (cap := cap1) (kd := .i64) (m := 0) (by kernel_rfl) (qT (qT (qT (qB (qT (qL (qB (qT (qT qZ))))))))) (by kernel_rfl) (by kernel_rfl) sl25 (F2.is hx3) ?_
    refine wH_load1 (i := 7) (d := 26) (T := 2) (ad := (elA A1 1 (0) 0)) (v := .int .i64 (x3)) (by kernel_rfl) (qT (qT (qT (qB (qT (qL (qB (qT (qT qZ))))))))) (by kernel_rfl) (by kernel_rfl) vt2 (fun W hW => Sl.cell (Z2.chg hW Dj.nil) hx3 0 (by rfl)) ?_
    refine wH_take [8, 9] [9, 8, 7, 6, 5, 4, 3, 2, 1, 0] [(28, .int .i64 (wr (p1 - 1))), (27, .int .i64 (p1))] (by kernel_rfl) (qT (qT (qT (qB (qT (qL (qB (qT (qT qZ))))))))) (by kernel_rfl) ?_
    refine wH_all [10] (by rfl) (by kernel_rfl) (by simp) ⟨⟨by kernel_rfl, ?_⟩, trivial⟩
    obtain ⟨y1, hy1, hm⟩ := bindE hm
    refine wS_calls (d := 29) (f := 87) (vs := [.int .i64 (x3), .int .i64 (0), .int .i64 (wr (p1 - 1))]) (by kernel_rfl) ent87 (c_spec_l00In hy1) ?_
    rintro _ w3 ⟨rfl, hc3⟩
    replace F1 := F1.chg hc3 Dj.nil
    replace F2 := F2.chg hc3 Dj.nil
    replace hB := hB.inS hc3 inNil
    have hSz := hS
    replace hS := hS.inS hc3 inNil
    replace hZ := Nat.le_trans hZ hc3.size
    refine ⟨.bool (y1), rfl, ?_⟩
    refine wS_end (by kernel_rfl) ?_
    refine eX_KH hS ?_
    refine wH_take [11, 12, 13] [13, 12, 11, 10, 9, 8, 7, 6, 5, 4, 3, 2, 1, 0] [(32, .bool (!y1)), (31, .bool (!y1)), (30, .bool (!y1))] (by kernel_rfl) (qT (qT (qT (qB (qT (qL (qB (qT (qT qZ))))))))) (by kernel_rfl) ?_
    refine wH_bool (!y1) (fun hb3 => ?_) (fun hb3 => ?_)
    ·have hm := condT hb3 hm
     rewrite [hb3]
     refine wH_take [14, 15, 16, 17, 18, 19, 20, 21, 22] [22, 21, 20, 19, 18, 17, 16, 15, 14, 13, 12, 11, 10, 9, 8, 7, 6, 5, 4, 3, 2, 1, 0] [(41, undef), (40, undef), (39, undef), (38, undef), (37, undef), (36, undef), (35, undef), (34, undef), (33, undef)] (by kernel_rfl) (qT (qT (qT (qB (qT (qL (qB (qT (qT qZ))))))))) (by kernel_rfl) ?_
     refine wH_done (by kernel_rfl) ?_
     refine eX_tail ?_
     refine wS_pure 14 [(55, .bool (true)), (54, undef), (53, undef), (52, undef), (51, undef), (50, undef), (49, undef), (48, undef), (47, undef), (46, undef), (45, .bool (true)), (44, .bool (true)), (43, undef), (42, undef)] (by kernel_rfl) ?_
     refine wS_end (by rfl) ?_
     refine eX_then ?_
     refine cW_prune [(0, .slice A0 (l0).length cap0), (1, .int .i64 (p1)), (2, .int .i64 (p2)), (7, .int .i64 (x1)), (8, .slice A1 (x2).length cap1), (55, .bool (true))] (by kernel_rfl) (by kernel_rfl) (fun a2 => ?_)
     refine cW_cond_t (by kernel_rfl) ?_
     refine cW_seq ?_
     refine cW_region ?_
     refine wS_pure 1 [(6, .bool (false))] (by kernel_rfl) ?_
     refine wS_end (by rfl) ?_
     refine eX_then ?_
     refine cW_ret ?_
     refine eX_then_ret ?_
     refine eX_block_ret ?_
     refine eX_then_ret ?_
     have hq : (some (Ctl.out (Sum.inr false)) : Option (Ctl (Int) (Sum (Unit) ((Bool))))) = some _ := hm
     replace hq := someE hq
     subst hq
     refine eX_outR hx1 (fun hr => ?_)
     subst hr
     refine eX_block_ret ?_
     refine eX_then_ret ?_
     refine eX_then_ret ?_
     have hq : (some false : Option ((Bool))) = some _ := hm1
     replace hq := someE hq
     subst hq
     refine eX_ret (vs := [.bool (false)]) [.tmp 6] (by rfl) ⟨by (show lkE _ _ _ = _); kernel_rfl, trivial⟩ ?_
     exact ⟨rfl, hB⟩
    ·have hm := condF hb3 hm
     rewrite [hb3]
     refine wH_take [14] [14, 13, 12, 11, 10, 9, 8, 7, 6, 5, 4, 3, 2, 1, 0] [(33, .slice A1 (x2).length cap1)] (by kernel_rfl) (qT (qT (qT (qB (qT (qL (qB (qT (qT qZ))))))))) (by kernel_rfl) ?_
     obtain ⟨x4, hx4, hm⟩ := bindE hm
     refine wH_idx (i := 15) (d := 34) (T := 25) (A := A1) (n := (x2).length) (cap := cap1) (kd := .i64) (m := 1) (by kernel_rfl) (qT (qT (qT (qB (qT (qL (qB (qT (qT qZ))))))))) (by kernel_rfl) (by kernel_rfl) sl25 (F2.is hx4) ?_
     refine wH_load1 (i := 16) (d := 35) (T := 2) (ad := (elA A1 1 (1) 0)) (v := .int .i64 (x4)) (by kernel_rfl) (qT (qT (qT (qB (qT (qL (qB (qT (qT qZ))))))))) (by kernel_rfl) (by kernel_rfl) vt2 (fun W hW => Sl.cell (Z2.chg hW Dj.nil) hx4 0 (by rfl)) ?_
     refine wH_take [17] [17, 16, 15, 14, 13, 12, 11, 10, 9, 8, 7, 6, 5, 4, 3, 2, 1, 0] [(36, .slice A1 (x2).length cap1)] (by kernel_rfl) (qT (qT (qT (qB (qT (qL (qB (qT (qT qZ))))))))) (by kernel_rfl) ?_
     obtain ⟨x5, hx5, hm⟩ := bindE hm
     refine wH_idx (i := 18) (d := 37) (T := 25) (A := A1) (n := (x2).length) (cap := cap1) (kd := .i64) (m := 0) (by kernel_rfl) (qT (qT (qT (qB (qT (qL (qB (qT (qT qZ))))))))) (by kernel_rfl) (by kernel_rfl) sl25 (F2.is hx5) ?_
     refine wH_load1 (i := 19) (d := 38) (T := 2) (ad := (elA A1 1 (0) 0)) (v := .int .i64 (x5)) (by kernel_rfl) (qT (qT (qT (qB (qT (qL (qB (qT (qT qZ))))))))) (by kernel_rfl) (by kernel_rfl) vt2 (fun W hW => Sl.cell (Z2.chg hW Dj.nil) hx5 0 (by rfl)) ?_
     refine wH_take [20, 21, 22] [22, 21, 20, 19, 18, 17, 16, 15, 14, 13, 12, 11, 10, 9, 8, 7, 6, 5, 4, 3, 2, 1, 0] [(41, .int .i64 (wr (p1 - 1))), (40, .int .i64 (p1)), (39, .int .i64 (wr (x5 + 1)))] (by kernel_rfl) (qT (qT (qT (qB (qT (qL (qB (qT (qT qZ))))))))) (by kernel_rfl) ?_
     refine wH_done (by kernel_rfl) ?_
     refine eX_tail ?_
     obtain ⟨y2, hy2, hm⟩ := bindE hm
     refine wS_calls (d := 42) (f := 87) (vs := [.int .i64 (x4), .int .i64 (wr (x5 + 1)), .int .i64 (wr (p1 - 1))]) (by kernel_rfl) ent87 (c_spec_l00In hy2) ?_
     rintro _ w4 ⟨rfl, hc4⟩
     replace F1 := F1.chg hc4 Dj.nil
     replace F2 := F2.chg hc4 Dj.nil
     replace hB := hB.inS hc4 inNil
     replace hZ := Nat.le_trans hZ hc4.size
     refine ⟨.bool (y2), rfl, ?_⟩
     refine wS_pure 3 [(45, .bool (!y2)), (44, .bool (!y2)), (43, .bool (!y2))] (by kernel_rfl) ?_
     refine wS_bool (!y2) (fun hb4 => ?_) (fun hb4 => ?_)
     ·have hm := condT hb4 hm
      rewrite [hb4]
      refine wS_pure 10 [(55, .bool (true)), (54, undef), (53, undef), (52, undef), (51, undef), (50, undef), (49, undef), (48, undef), (47, undef), (46, undef)] (by kernel_rfl) ?_
      refine wS_end (by rfl) ?_
      refine eX_then ?_
      refine cW_prune [(0, .slice A0 (l0).length cap0), (1, .int .i64 (p1)), (2, .int .i64 (p2)), (7, .int .i64 (x1)), (8, .slice A1 (x2).length cap1), (55, .bool (true))] (by kernel_rfl) (by kernel_rfl) (fun a3 => ?_)
      refine cW_cond_t (by kernel_rfl) ?_
      refine cW_seq ?_
      refine cW_region ?_
      refine wS_pure 1 [(6, .bool (false))] (by kernel_rfl) ?_
      refine wS_end (by rfl) ?_
      refine eX_then ?_
      refine cW_ret ?_
      refine eX_then_ret ?_
      refine eX_block_ret ?_
      refine eX_then_ret ?_
      have hq : (some (Ctl.out (Sum.inr false)) : Option (Ctl (Int) (Sum (Unit) ((Bool))))) = some _ := hm
      replace hq := someE hq
      subst hq
      refine eX_outR hx1 (fun hr => ?_)
      subst hr
      refine eX_block_ret ?_
      refine eX_then_ret ?_
      refine eX_then_ret ?_
      have hq : (some false : Option ((Bool))) = some _ := hm1
      replace hq := someE hq
      subst hq
      refine eX_ret (vs := [.bool (false)]) [.tmp 6] (by rfl) ⟨by (show lkE _ _ _ = _); kernel_rfl, trivial⟩ ?_
      exact ⟨rfl, hB⟩
     ·have hm := condF hb4 hm
      rewrite [hb4]
      refine wS_pure 3 [(48, .bool (p2 == 3)), (47, .bool (p2 == 3)), (46, .int .i64 (p2))] (by kernel_rfl) ?_
      refine wS_bool (p2 == 3) (fun hb5 => ?_) (fun hb5 => ?_)
      ·have hm := condT hb5 hm
       rewrite [hb5]
       refine wS_pure 1 [(49, .slice A1 (x2).length cap1)] (by kernel_rfl) ?_
       obtain ⟨x6, hx6, hm⟩ := bindE hm
       refine wS_idx (d := 50) (T := 25) (A := A1) (n := (x2).length) (cap := cap1) (kd := .i64) (m := 2) (by kernel_rfl) sl25 (F2.is hx6) ?_
       refine wS_load1 (d := 51) (T := 2) (ad := (elA A1 1 (2) 0)) (v := .int .i64 (x6)) (by kernel_rfl) vt2 (Sl.cell F2 hx6 0 (by rfl)) ?_
       obtain ⟨y3, hy3, hm⟩ := bindE hm
       refine wS_calls (d := 52) (f := 87) (vs := [.int .i64 (x6), .int .i64 (0), .int .i64 (1000)]) (by kernel_rfl) ent87 (c_spec_l00In hy3) ?_
       rintro _ w5 ⟨rfl, hc5⟩
       replace F1 := F1.chg hc5 Dj.nil
       replace F2 := F2.chg hc5 Dj.nil
       replace hB := hB.inS hc5 inNil
       replace hZ := Nat.le_trans hZ hc5.size
       refine ⟨.bool (y3), rfl, ?_⟩
       refine wS_pure 3 [(55, .bool (!y3)), (54, .bool (!y3)), (53, .bool (!y3))] (by kernel_rfl) ?_
       refine wS_end (by rfl) ?_
       refine eX_then ?_
       refine cW_prune [(0, .slice A0 (l0).length cap0), (1, .int .i64 (p1)), (2, .int .i64 (p2)), (7, .int .i64 (x1)), (8, .slice A1 (x2).length cap1), (55, .bool (!y3))] (by kernel_rfl) (by kernel_rfl) (fun a4 => ?_)
       refine cW_cond (t := !y3) (by kernel_rfl) (fun hb6 => ?_) (fun hb6 => ?_)
       ·have hm := condT hb6 hm
        refine cW_seq ?_
        refine cW_region ?_
        refine wS_pure 1 [(6, .bool (false))] (by kernel_rfl) ?_
        refine wS_end (by rfl) ?_
        refine eX_then ?_
        refine cW_ret ?_
        refine eX_then_ret ?_
        refine eX_block_ret ?_
        refine eX_then_ret ?_
        have hq : (some (Ctl.out (Sum.inr false)) : Option (Ctl (Int) (Sum (Unit) ((Bool))))) = some _ := hm
        replace hq := someE hq
        subst hq
        refine eX_outR hx1 (fun hr => ?_)
        subst hr
        refine eX_block_ret ?_
        refine eX_then_ret ?_
        refine eX_then_ret ?_
        have hq : (some false : Option ((Bool))) = some _ := hm1
        replace hq := someE hq
        subst hq
        refine eX_ret (vs := [.bool (false)]) [.tmp 6] (by rfl) ⟨by (show lkE _ _ _ = _); kernel_rfl, trivial⟩ ?_
        exact ⟨rfl, hB⟩
       ·have hm := condF hb6 hm
        refine cW_skip ?_
        refine eX_then ?_
        refine cW_seq ?_
        refine cW_region ?_
        refine wS_pure 3 [(58, .bool (decide (x1 > 0))), (57, .bool (decide (x1 > 0))), (56, .int .i64 (x1))] (by kernel_rfl) ?_
        refine wS_bool (decide (x1 > 0)) (fun hb7 => ?_) (fun hb7 => ?_)
        ·have hm := condT hb7 hm
         rewrite [hb7]
         refine wS_pure 3 [(61, .int .i64 (wr (x1 - 1))), (60, .int .i64 (x1)), (59, .slice A0 (l0).length cap0)] (by kernel_rfl) ?_
         obtain ⟨x7, hx7, hm⟩ := bindE hm
         refine wS_idx (d := 62) (T := 24) (A := A0) (n := (l0).length) (cap := cap0) (kd := .i64) (m := wr (x1 - 1)) (by kernel_rfl) sl24 (F1.is hx7) ?_
         obtain ⟨A2, cap2, hc6, F3, K2⟩ := SlR.row F1 hx7
         refine wS_load1 (d := 63) (T := 25) (ad := (elA A0 1 (wr (x1 - 1)) 0)) (v := .slice A2 (x7).length cap2) (by kernel_rfl) vt25 hc6 ?_
         refine wS_pure 1 [(64, .slice A1 (x2).length cap1)] (by kernel_rfl) ?_
         obtain ⟨y4, hy4, hm⟩ := bindE hm
         refine wS_calls (d := 65) (f := 128) (vs := [.slice A2 (x7).length cap2, .slice A1 (x2).length cap1]) (by kernel_rfl) ent128 (c_spec_l03Less hy4 F3 F2) ?_
         rintro _ w6 ⟨rfl, hc7⟩
         replace F1 := F1.chg hc7 Dj.nil
         replace F2 := F2.chg hc7 Dj.nil
         replace F3 := F3.chg hc7 Dj.nil
         replace hB := hB.inS hc7 inNil
         replace hZ := Nat.le_trans hZ hc7.size
         refine ⟨.bool (y4), rfl, ?_⟩
         refine wS_pure 2 [(67, .bool (!y4)), (66, .bool (!y4))] (by kernel_rfl) ?_
         refine wS_end (by rfl) ?_
         refine eX_then ?_
         refine cW_cond (t := !y4) (by kernel_rfl) (fun hb8 => ?_) (fun hb8 => ?_)
         ·have hm := condT hb8 hm
          refine cW_seq ?_
          refine cW_region ?_
          refine wS_pure 1 [(6, .bool (false))] (by kernel_rfl) ?_
          refine wS_end (by rfl) ?_
          refine eX_then ?_
          refine cW_ret ?_
          refine eX_block_ret ?_
          refine eX_then_ret ?_
          have hq : (some (Ctl.out (Sum.inr false)) : Option (Ctl (Int) (Sum (Unit) ((Bool))))) = some _ := hm
          replace hq := someE hq
          subst hq
          refine eX_outR hx1 (fun hr => ?_)
          subst hr
          refine eX_block_ret ?_
          refine eX_then_ret ?_
          refine eX_then_ret ?_
          have hq : (some false : Option ((Bool))) = some _ := hm1
          replace hq := someE hq
          subst hq
          refine eX_ret (vs := [.bool (false)]) [.tmp 6] (by rfl) ⟨by (show lkE _ _ _ = _); kernel_rfl, trivial⟩ ?_
          exact ⟨rfl, hB⟩
         ·have hm := condF hb8 hm
          refine cW_skip ?_
          refine eX_block ?_
          refine eX_then ?_
          refine cW_region ?_
          refine wS_pure 3 [(7, .int .i64 (wr (x1 + 1))), (14, .int .i64 (wr (x1 + 1))), (13, .int .i64 (x1))] (by kernel_rfl) ?_
          refine wS_end (by rfl) ?_
          have hq : (some (Ctl.next (wr (x1 + 1))) : Option (Ctl (Int) (Sum (Unit) ((Bool))))) = some _ := hm
          replace hq := someE hq
          subst hq
          exact eX_next hx1 (fun hst => ⟨wr (x1 + 1), rfl, Fr.of hst (by kernel_rfl), F1, hB, hZ⟩)
        ·have hm := condF hb7 hm
         rewrite [hb7]
         refine wS_pure 9 [(67, .bool (false)), (66, undef), (65, undef), (64, undef), (63, undef), (62, undef), (61, undef), (60, undef), (59, undef)] (by kernel_rfl) ?_
         refine wS_end (by rfl) ?_
         refine eX_then ?_
         refine cW_cond_f (by kernel_rfl) ?_
         refine cW_skip ?_
         refine eX_block ?_
         refine eX_then ?_
         refine cW_region ?_
         refine wS_pure 3 [(7, .int .i64 (wr (x1 + 1))), (14, .int .i64 (wr (x1 + 1))), (13, .int .i64 (x1))] (by kernel_rfl) ?_
         refine wS_end (by rfl) ?_
         have hq : (some (Ctl.next (wr (x1 + 1))) : Option (Ctl (Int) (Sum (Unit) ((Bool))))) = some _ := hm
         replace hq := someE hq
         subst hq
         exact eX_next hx1 (fun hst => ⟨wr (x1 + 1), rfl, Fr.of hst (by kernel_rfl), F1, hB, hZ⟩)
      ·have hm := condF hb5 hm
       rewrite [hb5]
       refine wS_pure 7 [(55, .bool (false)), (54, .bool (false)), (53, undef), (52, undef), (51, undef), (50, undef), (49, undef)] (by kernel_rfl) ?_
       refine wS_end (by rfl) ?_
       refine eX_then ?_
       refine cW_prune [(0, .slice A0 (l0).length cap0), (1, .int .i64 (p1)), (2, .int .i64 (p2)), (7, .int .i64 (x1)), (8, .slice A1 (x2).length cap1), (55, .bool (false))] (by kernel_rfl) (by kernel_rfl) (fun a5 => ?_)
       refine cW_cond_f (by kernel_rfl) ?_
       refine cW_skip ?_
       refine eX_then ?_
       refine cW_seq ?_
       refine cW_region ?_
       refine wS_pure 3 [(58, .bool (decide (x1 > 0))), (57, .bool (decide (x1 > 0))), (56, .int .i64 (x1))] (by kernel_rfl) ?_
       refine wS_bool (decide (x1 > 0)) (fun hb9 => ?_) (fun hb9 => ?_)
       ·have hm := condT hb9 hm
        rewrite [hb9]
        refine wS_pure 3 [(61, .int .i64 (wr (x1 - 1))), (60, .int .i64 (x1)), (59, .slice A0 (l0).length cap0)] (by kernel_rfl) ?_
        obtain ⟨x8, hx8, hm⟩ := bindE hm
        refine wS_idx (d := 62) (T := 24) (A := A0) (n := (l0).length) (cap := cap0) (kd := .i64) (m := wr (x1 - 1)) (by kernel_rfl) sl24 (F1.is hx8) ?_
        obtain ⟨A3, cap3, hc8, F4, K3⟩ := SlR.row F1 hx8
        refine wS_load1 (d := 63) (T := 25) (ad := (elA A0 1 (wr (x1 - 1)) 0)) (v := .slice A3 (x8).length cap3) (by kernel_rfl) vt25 hc8 ?_
        refine wS_pure 1 [(64, .slice A1 (x2).length cap1)] (by kernel_rfl) ?_
        obtain ⟨y5, hy5, hm⟩ := bindE hm
        refine wS_calls (d := 65) (f := 128) (vs := [.slice A3 (x8).length cap3, .slice A1 (x2).length cap1]) (by kernel_rfl) ent128 (c_spec_l03Less hy5 F4 F2) ?_
        rintro _ w7 ⟨rfl, hc9⟩
        replace F1 := F1.chg hc9 Dj.nil
        replace F2 := F2.chg hc9 Dj.nil
        replace F4 := F4.chg hc9 Dj.nil
        replace hB := hB.inS hc9 inNil
        replace hZ := Nat.le_trans hZ hc9.size
        refine ⟨.bool (y5), rfl, ?_⟩
        refine wS_pure 2 [(67, .bool (!y5)), (66, .bool (!y5))] (by kernel_rfl) ?_
        refine wS_end (by rfl) ?_
        refine eX_then ?_
        refine cW_cond (t := !y5) (by kernel_rfl) (fun hb10 => ?_) (fun hb10 => ?_)
        ·have hm := condT hb10 hm
         refine cW_seq ?_
         refine cW_region ?_
         refine wS_pure 1 [(6, .bool (false))] (by kernel_rfl) ?_
         refine wS_end (by rfl) ?_
         refine eX_then ?_
         refine cW_ret ?_
         refine eX_block_ret ?_
         refine eX_then_ret ?_
         have hq : (some (Ctl.out (Sum.inr false)) : Option (Ctl (Int) (Sum (Unit) ((Bool))))) = some _ := hm
         replace hq := someE hq
         subst hq
         refine eX_outR hx1 (fun hr => ?_)
         subst hr
         refine eX_block_ret ?_
         refine eX_then_ret ?_
         refine eX_then_ret ?_
         have hq : (some false : Option ((Bool))) = some _ := hm1
         replace hq := someE hq
         subst hq
         refine eX_ret (vs := [.bool (false)]) [.tmp 6] (by rfl) ⟨by (show lkE _ _ _ = _); kernel_rfl, trivial⟩ ?_
         exact ⟨rfl, hB⟩
        ·have hm := condF hb10 hm
         refine cW_skip ?_
         refine eX_block ?_
         refine eX_then ?_
         refine cW_region ?_
         refine wS_pure 3 [(7, .int .i64 (wr (x1 + 1))), (14, .int .i64 (wr (x1 + 1))), (13, .int .i64 (x1))] (by kernel_rfl) ?_
         refine wS_end (by rfl) ?_
         have hq : (some (Ctl.next (wr (x1 + 1))) : Option (Ctl (Int) (Sum (Unit) ((Bool))))) = some _ := hm
         replace hq := someE hq
         subst hq
         exact eX_next hx1 (fun hst => ⟨wr (x1 + 1), rfl, Fr.of hst (by kernel_rfl), F1, hB, hZ⟩)
       ·have hm := condF hb9 hm
        rewrite [hb9]
        refine wS_pure 9 [(67, .bool (false)), (66, undef), (65, undef), (64, undef), (63, undef), (62, undef), (61, undef), (60, undef), (59, undef)] (by kernel_rfl) ?_
        refine wS_end (by rfl) ?_
        refine eX_then ?_
        refine cW_cond_f (by kernel_rfl) ?_
        refine cW_skip ?_
        refine eX_block ?_
        refine eX_then ?_
        refine cW_region ?_
        refine wS_pure 3 [(7, .int .i64 (wr (x1 + 1))), (14, .int .i64 (wr (x1 + 1))), (13, .int .i64 (x1))] (by kernel_rfl) ?_
        refine wS_end (by rfl) ?_
        have hq : (some (Ctl.next (wr (x1 + 1))) : Option (Ctl (Int) (Sum (Unit) ((Bool))))) = some _ := hm
        replace hq := someE hq
        subst hq
        exact eX_next hx1 (fun hst => ⟨wr (x1 + 1), rfl, Fr.of hst (by kernel_rfl), F1, hB, hZ⟩)
  ·have hm := condF hb1 hm
   refine cW_exit ?_
   refine eX_then_exit ?_
   have hq : (some (Ctl.out (Sum.inl (()))) : Option (Ctl (Int) (Sum (Unit) ((Bool))))) = some _ := hm
   replace hq := someE hq
   subst hq
   refine eX_outX hx1 (fun hr2 => ?_)
   replace hr2 := hr2.symm
   subst hr2
   refine eX_block_hit ?_
   exact eX_J (fun hst => ⟨rfl, Fr.of hst (by kernel_rfl), F1, hB, hZ⟩)
 ·rintro a' w8 ⟨hJ, hF2, F5, hB, hZ⟩
  subst hJ
  refine Fr.goX hF2 (by kernel_rfl) ?_
  refine eX_then ?_
  refine cW_seq ?_
  refine cW_region ?_
  refine wS_pure 4 [(6, .bool (decide ((((l0).length : Int)) ≤ 30))), (70, .bool (decide ((((l0).length : Int)) ≤ 30))), (69, .int .i64 (((l0).length : Int))), (68, .slice A0 (l0).length cap0)] (by kernel_rfl) ?_
  refine wS_end (by rfl) ?_
  refine eX_then ?_
  refine cW_ret ?_
  have hq : (some (decide ((((l0).length : Int)) ≤ 30)) : Option ((Bool))) = some _ := hm
  replace hq := someE hq
  subst hq
  refine eX_ret (vs := [.bool (decide ((((l0).length : Int)) ≤ 30))]) [.tmp 6] (by rfl) ⟨by (show lkE _ _ _ = _); kernel_rfl, trivial⟩ ?_
  exact ⟨rfl, hB⟩

set_option maxRecDepth 100000 in
/-- spec.l07Is -/
theorem c_spec_l07Is_bimplWiring {w0 : World} {q0_0 : Int} {l0_1 : List (List (Int))} {A0_1 : Option Addr} {cap0_1 : Nat} {fp0_1 : List Nat} {l0_2 : List (List (Int))} {A0_2 : Option Addr} {cap0_2 : Nat} {fp0_2 : List Nat} {l0_3 : List (Int)} {A0_3 : Option Addr} {cap0_3 : Nat} {fp0_3 : List Nat} {b0 : Nat} {r : (Bool)} (hm : m_spec_l07Is_bimplWiring q0_0 l0_1 l0_2 l0_3 = some r) (F0_1 : SlR 1 encI w0 fp0_1 A0_1 l0_1) (F0_2 : SlR 1 encI w0 fp0_2 A0_2 l0_2) (F0_3 : Sl 1 encI w0 fp0_3 A0_3 l0_3) (F0 : Cl w0 b0 27 [.int .i64 (q0_0), .slice A0_1 (l0_1).length cap0_1, .slice A0_2 (l0_2).length cap0_2, .slice A0_3 (l0_3).length cap0_3]) :
  Calls Try.prog 63 #[.pointer (some ⟨b0, 0, none⟩)] w0 fun e w' => e = .returned (.bool (r)) ∧ Chg [] w0 w' := by
 have L0_1 := F0_1.low
 have L0_2 := F0_2.low
 have L0_3 := F0_3.low
 have L0 := lt1 F0.lt
 have hB : Chg [] w0 w0 := Chg.refl _ _
 have hZ := Nat.le_refl w0.heap.size
 unfold m_spec_l07Is_bimplWiring at hm
 refine enterE (N := 60) Try.func63 (by rfl) Try.ntmps63 (by simp) [(0, .pointer (some ⟨b0, 0, none⟩))] (by rfl) (by kernel_rfl) (fun a => ?_)
 refine cW_seq ?_
 refine cW_region ?_
 refine wS_pure 1 [(2, .bool (false))] (by kernel_rfl) ?_
 refine wS_end (by rfl) ?_
 refine eX_then ?_
 refine cW_seq ?_
 refine cW_seq ?_
 refine cW_drawnTail [] 16 (by kernel_rfl) (by kernel_rfl) (fun w1 hc1 => ?_)
 replace F0_1 := F0_1.chg hc1 Dj.nil
 replace F0_2 := F0_2.chg hc1 Dj.nil
 replace F0_3 := F0_3.chg hc1 Dj.nil
 replace F0 := F0.chg hc1 notNil
 replace hB := hB.inS hc1 inNil
 replace hZ := Nat.le_trans hZ hc1.size
 have hS := Chg.refl [] w1
 have Z1 := F0_1
 have Z2 := F0_2
 have Z3 := F0_3
 have Z4 := F0
 refine wH_take [0, 1, 2] [2, 1, 0] [(6, .pointer (some ⟨b0, 0, none⟩)), (5, .pointer (some ⟨b0, 0, none⟩)), (4, .pointer (some ⟨b0, 0, none⟩))] (by kernel_rfl) (qT (qT (qT qZ))) (by kernel_rfl) ?_
 refine wH_load1 (i := 3) (d := 7) (T := 2) (ad := ⟨b0, 0, none⟩) (v := .int .i64 (q0_0)) (by kernel_rfl) (qT (qT (qT qZ))) (by kernel_rfl) (by kernel_rfl) vt2 (fun W hW => (Z4.chg hW notNil).cell 0) ?_
 refine wH_all [4] (by rfl) (by kernel_rfl) (by simp) ⟨⟨by kernel_rfl, ?_⟩, trivial⟩
 obtain ⟨y1, hy1, hm⟩ := bindE hm
 refine wS_calls (d := 8) (f := 87) (vs := [.int .i64 (q0_0), .int .i64 (0), .int .i64 (14)]) (by kernel_rfl) ent87 (c_spec_l00In hy1) ?_
 rintro _ w2 ⟨rfl, hc2⟩
 replace F0_1 := F0_1.chg hc2 Dj.nil
 replace F0_2 := F0_2.chg hc2 Dj.nil
 replace F0_3 := F0_3.chg hc2 Dj.nil
 replace F0 := F0.chg hc2 notNil
 replace hB := hB.inS hc2 inNil
 have hSz := hS
 replace hS := hS.inS hc2 inNil
 replace hZ := Nat.le_trans hZ hc2.size
 refine ⟨.bool (y1), rfl, ?_⟩
 refine wS_end (by kernel_rfl) ?_
 refine eX_KH hS ?_
 refine wH_take [5, 6] [6, 5, 4, 3, 2, 1, 0] [(10, .bool (!y1)), (9, .bool (!y1))] (by kernel_rfl) (qT (qT (qT qZ))) (by kernel_rfl) ?_
 refine wH_bool (!y1) (fun hb1 => ?_) (fun hb1 => ?_)
 ·have hm := condT hb1 hm
  rewrite [hb1]
  refine wH_take [7, 8, 9, 10, 11, 12, 13, 14, 15] [15, 14, 13, 12, 11, 10, 9, 8, 7, 6, 5, 4, 3, 2, 1, 0] [(19, undef), (18, undef), (17, undef), (16, undef), (15, undef), (14, undef), (13, undef), (12, undef), (11, undef)] (by kernel_rfl) (qT (qT (qT qZ))) (by kernel_rfl) ?_
  refine wH_done (by kernel_rfl) ?_
  refine eX_tail ?_
  refine wS_pure 2 [(21, .bool (true)), (20, undef)] (by kernel_rfl) ?_
  refine wS_end (by rfl) ?_
  refine eX_then ?_
  refine cW_cond_t (by kernel_rfl) ?_
  refine cW_seq ?_
  refine cW_region ?_
  refine wS_pure 1 [(2, .bool (false))] (by kernel_rfl) ?_
  refine wS_end (by rfl) ?_
  refine eX_then ?_
  refine cW_ret ?_
  refine eX_then_ret ?_
  have hq : (some false : Option ((Bool))) = some _ := hm
  replace hq := someE hq
  subst hq
  refine eX_ret (vs := [.bool (false)]) [.tmp 2] (by rfl) ⟨by (show lkE _ _ _ = _); kernel_rfl, trivial⟩ ?_
  exact ⟨rfl, hB⟩
 ·have hm := condF hb1 hm
  rewrite [hb1]
  refine wH_take [7, 8, 9] [9, 8, 7, 6, 5, 4, 3, 2, 1, 0] [(13, .pointer (some ⟨b0, 3, none⟩)), (12, .pointer (some ⟨b0, 0, none⟩)), (11, .pointer (some ⟨b0, 0, none⟩))] (by kernel_rfl) (qT (qT (qT qZ))) (by kernel_rfl) ?_
  refine wH_load1 (i := 10) (d := 14) (T := 25) (ad := ⟨b0, 3, none⟩) (v := .slice A0_3 (l0_3).length cap0_3) (by kernel_rfl) (qT (qT (qT qZ))) (by kernel_rfl) (by kernel_rfl) vt25 (fun W hW => (Z4.chg hW notNil).cell 3) ?_
  refine wH_take [11, 12, 13, 14] [14, 13, 12, 11, 10, 9, 8, 7, 6, 5, 4, 3, 2, 1, 0] [(18, .pointer (some ⟨b0, 0, none⟩)), (17, .pointer (some ⟨b0, 0, none⟩)), (16, .pointer (some ⟨b0, 0, none⟩)), (15, .int .i64 (((l0_3).length : Int)))] (by kernel_rfl) (qT (qT (qT qZ))) (by kernel_rfl) ?_
  refine wH_load1 (i := 15) (d := 19) (T := 2) (ad := ⟨b0, 0, none⟩) (v := .int .i64 (q0_0)) (by kernel_rfl) (qT (qT (qT qZ))) (by kernel_rfl) (by kernel_rfl) vt2 (fun W hW => (Z4.chg hW notNil).cell 0) ?_
  refine wH_done (by kernel_rfl) ?_
  refine eX_tail ?_
  refine wS_pure 2 [(21, .bool ((((l0_3).length : Int)) != q0_0)), (20, .bool ((((l0_3).length : Int)) != q0_0))] (by kernel_rfl) ?_
  refine wS_end (by rfl) ?_
  refine eX_then ?_
  refine cW_cond (t := (((l0_3).length : Int)) != q0_0) (by kernel_rfl) (fun hb2 => ?_) (fun hb2 => ?_)
  ·have hm := condT hb2 hm
   refine cW_seq ?_
   refine cW_region ?_
   refine wS_pure 1 [(2, .bool (false))] (by kernel_rfl) ?_
   refine wS_end (by rfl) ?_
   refine eX_then ?_
   refine cW_ret ?_
   refine eX_then_ret ?_
   have hq : (some false : Option ((Bool))) = some _ := hm
   replace hq := someE hq
   subst hq
   refine eX_ret (vs := [.bool (false)]) [.tmp 2] (by rfl) ⟨by (show lkE _ _ _ = _); kernel_rfl, trivial⟩ ?_
   exact ⟨rfl, hB⟩
  ·have hm := condF hb2 hm
   refine cW_skip ?_
   refine eX_then ?_
   refine cW_seq ?_
   refine cW_seq ?_
   refine cW_region ?_
   refine wS_pure 1 [(3, .int .i64 (0))] (by kernel_rfl) ?_
   refine wS_end (by rfl) ?_
   refine eX_then ?_
   obtain ⟨r1, hr1, hm⟩ := bindE hm
   have hm1 := hm
   refine cW_cut (fun a' w' => Sum.inl (()) = r1 ∧ Fr 60 [(0, .pointer (some ⟨b0, 0, none⟩))] a' ∧ SlR 1 encI w' fp0_1 A0_1 l0_1 ∧ SlR 1 encI w' fp0_2 A0_2 l0_2 ∧ Sl 1 encI w' fp0_3 A0_3 l0_3 ∧ Cl w' b0 27 [.int .i64 (q0_0), .slice A0_1 (l0_1).length cap0_1, .slice A0_2 (l0_2).length cap0_2, .slice A0_3 (l0_3).length cap0_3] ∧ Chg [] w0 w' ∧ w0.heap.size ≤ w'.heap.size) ?_ ?_
   ·refine cW_block ?_
    refine cW_loop _ (fun (s1 : Int) a' w' => ∃ x1 : Int, x1 = s1 ∧ Fr 60 [(0, .pointer (some ⟨b0, 0, none⟩)), (3, .int .i64 (x1))] a' ∧ SlR 1 encI w' fp0_1 A0_1 l0_1 ∧ SlR 1 encI w' fp0_2 A0_2 l0_2 ∧ Sl 1 encI w' fp0_3 A0_3 l0_3 ∧ Cl w' b0 27 [.int .i64 (q0_0), .slice A0_1 (l0_1).length cap0_1, .slice A0_2 (l0_2).length cap0_2, .slice A0_3 (l0_3).length cap0_3] ∧ Chg [] w0 w' ∧ w0.heap.size ≤ w'.heap.size) hr1 (fun hst => ⟨0, rfl, Fr.of hst (by kernel_rfl), F0_1, F0_2, F0_3, F0, hB, hZ⟩) ?_
    rintro _ c1 a' w3 ⟨x1, rfl, hF1, F1, F2, F3, F4, hB, hZ⟩ hx1
    refine Fr.goOn hF1 (by kernel_rfl) ?_
    have hm := hx1
    unfold m_spec_l07Is_bimplWiring_s1 at hm
    refine cW_seq ?_
    refine cW_seq ?_
    refine cW_region ?_
    refine wS_pure 4 [(25, .pointer (some ⟨b0, 3, none⟩)), (24, .pointer (some ⟨b0, 0, none⟩)), (23, .pointer (some ⟨b0, 0, none⟩)), (22, .int .i64 (x1))] (by kernel_rfl) ?_
    refine wS_load1 (d := 26) (T := 25) (ad := ⟨b0, 3, none⟩) (v := .slice A0_3 (l0_3).length cap0_3) (by kernel_rfl) vt25 ((F4).cell 3) ?_
    refine wS_pure 2 [(28, .bool (decide (x1 < (((l0_3).length : Int))))), (27, .int .i64 (((l0_3).length : Int)))] (by kernel_rfl) ?_
    refine wS_end (by rfl) ?_
    refine eX_then ?_
    refine cW_cond (t := decide (x1 < (((l0_3).length : Int)))) (by kernel_rfl) (fun hb3 => ?_) (fun hb3 => ?_)
    ·have hm := condT hb3 hm
     refine cW_skip ?_
     refine eX_then ?_
     refine cW_seq ?_
     refine cW_block ?_
     refine cW_seq ?_
     refine cW_region ?_
     refine wS_pure 3 [(33, .pointer (some ⟨b0, 3, none⟩)), (32, .pointer (some ⟨b0, 0, none⟩)), (31, .pointer (some ⟨b0, 0, none⟩))] (by kernel_rfl) ?_
     refine wS_load1 (d := 34) (T := 25) (ad := ⟨b0, 3, none⟩) (v := .slice A0_3 (l0_3).length cap0_3) (by kernel_rfl) vt25 ((F4).cell 3) ?_
     refine wS_pure 1 [(35, .int .i64 (x1))] (by kernel_rfl) ?_
     obtain ⟨x2, hx2, hm⟩ := bindE hm
     refine wS_idx (d := 36) (T := 25) (A := A0_3) (n := (l0_3).length) (cap := cap0_3) (kd := .i64) (m := x1) (by kernel_rfl) sl25 (F3.is hx2) ?_
     refine wS_load1 (d := 37) (T := 2) (ad := (elA A0_3 1 (x1) 0)) (v := .int .i64 (x2)) (by kernel_rfl) vt2 (Sl.cell F3 hx2 0 (by rfl)) ?_
     obtain ⟨y2, hy2, hm⟩ := bindE hm
     refine wS_calls (d := 38) (f := 87) (vs := [.int .i64 (x2), .int .i64 ((-1)), .int .i64 (1)]) (by kernel_rfl) ent87 (c_spec_l00In hy2) ?_
     rintro _ w4 ⟨rfl, hc3⟩
     replace F1 := F1.chg hc3 Dj.nil
     replace F2 := F2.chg hc3 Dj.nil
     replace F3 := F3.chg hc3 Dj.nil
     replace F4 := F4.chg hc3 notNil
     replace hB := hB.inS hc3 inNil
     replace hZ := Nat.le_trans hZ hc3.size
     refine ⟨.bool (y2), rfl, ?_⟩
     refine wS_pure 1 [(39, .bool (!y2))] (by kernel_rfl) ?_
     refine wS_end (by rfl) ?_
     refine eX_then ?_
     refine cW_cond (t := !y2) (by kernel_rfl) (fun hb4 => ?_) (fun hb4 => ?_)
     ·have hm := condT hb4 hm
      refine cW_seq ?_
      refine cW_region ?_
      refine wS_pure 1 [(2, .bool (false))] (by kernel_rfl) ?_
      refine wS_end (by rfl) ?_
      refine eX_then ?_
      refine cW_ret ?_
      refine eX_block_ret ?_
      refine eX_then_ret ?_
      have hq : (some (Ctl.out (Sum.inr false)) : Option (Ctl (Int) (Sum (Unit) ((Bool))))) = some _ := hm
      replace hq := someE hq
      subst hq
      refine eX_outR hx1 (fun hr => ?_)
      subst hr
      refine eX_block_ret ?_
      refine eX_then_ret ?_
      refine eX_then_ret ?_
      have hq : (some false : Option ((Bool))) = some _ := hm1
      replace hq := someE hq
      subst hq
      refine eX_ret (vs := [.bool (false)]) [.tmp 2] (by rfl) ⟨by (show lkE _ _ _ = _); kernel_rfl, trivial⟩ ?_
      exact ⟨rfl, hB⟩
     ·have hm := condF hb4 hm
      refine cW_skip ?_
      refine eX_block ?_
      refine eX_then ?_
      refine cW_region ?_
      refine wS_pure 3 [(3, .int .i64 (wr (x1 + 1))), (30, .int .i64 (wr (x1 + 1))), (29, .int .i64 (x1))] (by kernel_rfl) ?_
      refine wS_end (by rfl) ?_
      have hq : (some (Ctl.next (wr (x1 + 1))) : Option (Ctl (Int) (Sum (Unit) ((Bool))))) = some _ := hm
      replace hq := someE hq
      subst hq
      exact eX_next hx1 (fun hst => ⟨wr (x1 + 1), rfl, Fr.of hst (by kernel_rfl), F1, F2, F3, F4, hB, hZ⟩)
    ·have hm := condF hb3 hm
     refine cW_exit ?_
     refine eX_then_exit ?_
     have hq : (some (Ctl.out (Sum.inl (()))) : Option (Ctl (Int) (Sum (Unit) ((Bool))))) = some _ := hm
     replace hq := someE hq
     subst hq
     refine eX_outX hx1 (fun hr2 => ?_)
     replace hr2 := hr2.symm
     subst hr2
     refine eX_block_hit ?_
     exact eX_J (fun hst => ⟨rfl, Fr.of hst (by kernel_rfl), F1, F2, F3, F4, hB, hZ⟩)
   ·rintro a' w5 ⟨hJ, hF2, F5, F6, F7, F8, hB, hZ⟩
    subst hJ
    refine Fr.goX hF2 (by kernel_rfl) ?_
    refine eX_then ?_
    refine cW_seq ?_
    refine cW_drawnTail [] 18 (by kernel_rfl) (by kernel_rfl) (fun w6 hc4 => ?_)
    replace F5 := F5.chg hc4 Dj.nil
    replace F6 := F6.chg hc4 Dj.nil
    replace F7 := F7.chg hc4 Dj.nil
    replace F8 := F8.chg hc4 notNil
    replace hB := hB.inS hc4 inNil
    replace hZ := Nat.le_trans hZ hc4.size
    have hS := Chg.refl [] w6
    have Z5 := F5
    have Z6 := F6
    have Z7 := F7
    have Z8 := F8
    refine wH_take [0, 1, 2] [2, 1, 0] [(42, .pointer (some ⟨b0, 1, none⟩)), (41, .pointer (some ⟨b0, 0, none⟩)), (40, .pointer (some ⟨b0, 0, none⟩))] (by kernel_rfl) (qT (qT qZ)) (by kernel_rfl) ?_
    refine wH_load1 (i := 3) (d := 43) (T := 24) (ad := ⟨b0, 1, none⟩) (v := .slice A0_1 (l0_1).length cap0_1) (by kernel_rfl) (qT (qT qZ)) (by kernel_rfl) (by kernel_rfl) vt24 (fun W hW => (Z8.chg hW notNil).cell 1) ?_
    refine wH_take [4, 5, 6] [6, 5, 4, 3, 2, 1, 0] [(46, .pointer (some ⟨b0, 0, none⟩)), (45, .pointer (some ⟨b0, 0, none⟩)), (44, .pointer (some ⟨b0, 0, none⟩))] (by kernel_rfl) (qT (qT qZ)) (by kernel_rfl) ?_
    refine wH_load1 (i := 7) (d := 47) (T := 2) (ad := ⟨b0, 0, none⟩) (v := .int .i64 (q0_0)) (by kernel_rfl) (qT (qT qZ)) (by kernel_rfl) (by kernel_rfl) vt2 (fun W hW => (Z8.chg hW notNil).cell 0) ?_
    refine wH_all [8] (by rfl) (by kernel_rfl) (by simp) ⟨⟨by kernel_rfl, ?_⟩, trivial⟩
    obtain ⟨y3, hy3, hm⟩ := bindE hm
    refine wS_calls (d := 48) (f := 103) (vs := [.slice A0_1 (l0_1).length cap0_1, .int .i64 (q0_0), .int .i64 (2)]) (by kernel_rfl) ent103 (c_spec_l07Lists hy3 F5) ?_
    rintro _ w7 ⟨rfl, hc5⟩
    replace F5 := F5.chg hc5 Dj.nil
    replace F6 := F6.chg hc5 Dj.nil
    replace F7 := F7.chg hc5 Dj.nil
    replace F8 := F8.chg hc5 notNil
    replace hB := hB.inS hc5 inNil
    have hSz := hS
    replace hS := hS.inS hc5 inNil
    replace hZ := Nat.le_trans hZ hc5.size
    refine ⟨.bool (y3), rfl, ?_⟩
    refine wS_end (by kernel_rfl) ?_
    refine eX_KH hS ?_
    refine wH_take [9] [9, 8, 7, 6, 5, 4, 3, 2, 1, 0] [(49, .bool (y3))] (by kernel_rfl) (qT (qT qZ)) (by kernel_rfl) ?_
    refine wH_bool y3 (fun hb5 => ?_) (fun hb5 => ?_)
    ·have hm := condT hb5 hm
     rewrite [hb5]
     refine wH_take [10, 11, 12] [12, 11, 10, 9, 8, 7, 6, 5, 4, 3, 2, 1, 0] [(52, .pointer (some ⟨b0, 2, none⟩)), (51, .pointer (some ⟨b0, 0, none⟩)), (50, .pointer (some ⟨b0, 0, none⟩))] (by kernel_rfl) (qT (qT qZ)) (by kernel_rfl) ?_
     refine wH_load1 (i := 13) (d := 53) (T := 24) (ad := ⟨b0, 2, none⟩) (v := .slice A0_2 (l0_2).length cap0_2) (by kernel_rfl) (qT (qT qZ)) (by kernel_rfl) (by kernel_rfl) vt24 (fun W hW => (Z8.chg hW notNil).cell 2) ?_
     refine wH_take [14, 15, 16] [16, 15, 14, 13, 12, 11, 10, 9, 8, 7, 6, 5, 4, 3, 2, 1, 0] [(56, .pointer (some ⟨b0, 0, none⟩)), (55, .pointer (some ⟨b0, 0, none⟩)), (54, .pointer (some ⟨b0, 0, none⟩))] (by kernel_rfl) (qT (qT qZ)) (by kernel_rfl) ?_
     refine wH_load1 (i := 17) (d := 57) (T := 2) (ad := ⟨b0, 0, none⟩) (v := .int .i64 (q0_0)) (by kernel_rfl) (qT (qT qZ)) (by kernel_rfl) (by kernel_rfl) vt2 (fun W hW => (Z8.chg hW notNil).cell 0) ?_
     refine wH_done (by kernel_rfl) ?_
     refine eX_tail ?_
     obtain ⟨y4, hy4, hm⟩ := bindE hm
     refine wS_calls (d := 58) (f := 103) (vs := [.slice A0_2 (l0_2).length cap0_2, .int .i64 (q0_0), .int .i64 (3)]) (by kernel_rfl) ent103 (c_spec_l07Lists hy4 F6) ?_
     rintro _ w8 ⟨rfl, hc6⟩
     replace F5 := F5.chg hc6 Dj.nil
     replace F6 := F6.chg hc6 Dj.nil
     replace F7 := F7.chg hc6 Dj.nil
     replace F8 := F8.chg hc6 notNil
     replace hB := hB.inS hc6 inNil
     replace hZ := Nat.le_trans hZ hc6.size
     refine ⟨.bool (y4), rfl, ?_⟩
     refine wS_pure 2 [(2, .bool (y4)), (59, .bool (y4))] (by kernel_rfl) ?_
     refine wS_end (by rfl) ?_
     refine eX_then ?_
     refine cW_ret ?_
     have hq : (some y4 : Option ((Bool))) = some _ := hm
     replace hq := someE hq
     subst hq
     refine eX_ret (vs := [.bool (y4)]) [.tmp 2] (by rfl) ⟨by (show lkE _ _ _ = _); kernel_rfl, trivial⟩ ?_
     exact ⟨rfl, hB⟩
    ·have hm := condF hb5 hm
     rewrite [hb5]
     refine wH_take [10, 11, 12, 13, 14, 15, 16, 17] [17, 16, 15, 14, 13, 12, 11, 10, 9, 8, 7, 6, 5, 4, 3, 2, 1, 0] [(57, undef), (56, undef), (55, undef), (54, undef), (53, undef), (52, undef), (51, undef), (50, undef)] (by kernel_rfl) (qT (qT qZ)) (by kernel_rfl) ?_
     refine wH_done (by kernel_rfl) ?_
     refine eX_tail ?_
     refine wS_pure 3 [(2, .bool (false)), (59, .bool (false)), (58, undef)] (by kernel_rfl) ?_
     refine wS_end (by rfl) ?_
     refine eX_then ?_
     refine cW_ret ?_
     have hq : (some false : Option ((Bool))) = some _ := hm
     replace hq := someE hq
     subst hq
     refine eX_ret (vs := [.bool (false)]) [.tmp 2] (by rfl) ⟨by (show lkE _ _ _ = _); kernel_rfl, trivial⟩ ?_
     exact ⟨rfl, hB⟩

set_option maxRecDepth 100000 in
/-- spec.l07Layering -/
theorem c_spec_l07Layering_bimplWiring {w0 : World} {q0_0 : Int} {l0_1 : List (List (Int))} {A0_1 : Option Addr} {cap0_1 : Nat} {fp0_1 : List Nat} {l0_2 : List (List (Int))} {A0_2 : Option Addr} {cap0_2 : Nat} {fp0_2 : List Nat} {l0_3 : List (Int)} {A0_3 : Option Addr} {cap0_3 : Nat} {fp0_3 : List Nat} {b0 : Nat} {l1 : List (Int)} {A1 : Option Addr} {cap1 : Nat} {fp1 : List Nat} {r : (Bool)} (hm : m_spec_l07Layering_bimplWiring q0_0 l0_1 l0_2 l0_3 l1 = some r) (F0_1 : SlR 1 encI w0 fp0_1 A0_1 l0_1) (F0_2 : SlR 1 encI w0 fp0_2 A0_2 l0_2) (F0_3 : Sl 1 encI w0 fp0_3 A0_3 l0_3) (F0 : Cl w0 b0 27 [.int .i64 (q0_0), .slice A0_1 (l0_1).length cap0_1, .slice A0_2 (l0_2).length cap0_2, .slice A0_3 (l0_3).length cap0_3]) (F1 : Sl 1 encI w0 fp1 A1 l1) :
  Calls Try.prog 64 #[.pointer (some ⟨b0, 0, none⟩), .slice A1 (l1).length cap1] w0 fun e w' => e = .returned (.bool (r)) ∧ Chg [] w0 w' := by
 have L0_1 := F0_1.low
 have L0_2 := F0_2.low
 have L0_3 := F0_3.low
 have L0 := lt1 F0.lt
 have L1 := F1.low
 have hB : Chg [] w0 w0 := Chg.refl _ _
 have hZ := Nat.le_refl w0.heap.size
 unfold m_spec_l07Layering_bimplWiring at hm
 refine enterE (N := 84) Try.func64 (by rfl) Try.ntmps64 (by simp) [(0, .pointer (some ⟨b0, 0, none⟩)), (1, .slice A1 (l1).length cap1)] (by rfl) (by kernel_rfl) (fun a => ?_)
 refine cW_seq ?_
 refine cW_region ?_
 refine wS_pure 1 [(4, .bool (false))] (by kernel_rfl) ?_
 refine wS_end (by rfl) ?_
 refine eX_then ?_
 refine cW_seq ?_
 refine cW_seq ?_
 refine cW_region ?_
 refine wS_pure 5 [(11, .pointer (some ⟨b0, 0, none⟩)), (10, .pointer (some ⟨b0, 0, none⟩)), (9, .pointer (some ⟨b0, 0, none⟩)), (8, .int .i64 (((l1).length : Int))), (7, .slice A1 (l1).length cap1)] (by kernel_rfl) ?_
 refine wS_load1 (d := 12) (T := 2) (ad := ⟨b0, 0, none⟩) (v := .int .i64 (q0_0)) (by kernel_rfl) vt2 ((F0).cell 0) ?_
 refine wS_pure 1 [(13, .bool ((((l1).length : Int)) != q0_0))] (by kernel_rfl) ?_
 refine wS_end (by rfl) ?_
 refine eX_then ?_
 refine cW_cond (t := (((l1).length : Int)) != q0_0) (by kernel_rfl) (fun hb1 => ?_) (fun hb1 => ?_)
 ·have hm := condT hb1 hm
  refine cW_seq ?_
  refine cW_region ?_
  refine wS_pure 1 [(4, .bool (false))] (by kernel_rfl) ?_
  refine wS_end (by rfl) ?_
  refine eX_then ?_
  refine cW_ret ?_
  refine eX_then_ret ?_
  have hq : (some false : Option ((Bool))) = some _ := hm
  replace hq := someE hq
  subst hq
  refine eX_ret (vs := [.bool (false)]) [.tmp 4] (by rfl) ⟨by (show lkE _ _ _ = _); kernel_rfl, trivial⟩ ?_
  exact ⟨rfl, hB⟩
 ·have hm := condF hb1 hm
  refine cW_skip ?_
  refine eX_then ?_
  refine cW_seq ?_
  refine cW_seq ?_
  refine cW_region ?_
  refine wS_pure 1 [(5, .int .i64 (0))] (by kernel_rfl) ?_
  refine wS_end (by rfl) ?_
  refine eX_then ?_
  obtain ⟨r1, hr1, hm⟩ := bindE hm
  have hm1 := hm
  refine cW_cut (fun a' w' => Sum.inl (()) = r1 ∧ Fr 84 [(0, .pointer (some ⟨b0, 0, none⟩)), (1, .slice A1 (l1).length cap1)] a' ∧ SlR 1 encI w' fp0_1 A0_1 l0_1 ∧ SlR 1 encI w' fp0_2 A0_2 l0_2 ∧ Sl 1 encI w' fp0_3 A0_3 l0_3 ∧ Cl w' b0 27 [.int .i64 (q0_0), .slice A0_1 (l0_1).length cap0_1, .slice A0_2 (l0_2).length cap0_2, .slice A0_3 (l0_3).length cap0_3] ∧ Sl 1 encI w' fp1 A1 l1 ∧ Chg [] w0 w' ∧ w0.heap.size ≤ w'.heap.size) ?_ ?_
  ·refine cW_block ?_
   refine cW_loop _ (fun (s1 : Int) a' w' => ∃ x1 : Int, x1 = s1 ∧ Fr 84 [(0, .pointer (some ⟨b0, 0, none⟩)), (1, .slice A1 (l1).length cap1), (5, .int .i64 (x1))] a' ∧ SlR 1 encI w' fp0_1 A0_1 l0_1 ∧ SlR 1 encI w' fp0_2 A0_2 l0_2 ∧ Sl 1 encI w' fp0_3 A0_3 l0_3 ∧ Cl w' b0 27 [.int .i64 (q0_0), .slice A0_1 (l0_1).length cap0_1, .slice A0_2 (l0_2).length cap0_2, .slice A0_3 (l0_3).length cap0_3] ∧ Sl 1 encI w' fp1 A1 l1 ∧ Chg [] w0 w' ∧ w0.heap.size ≤ w'.heap.size) hr1 (fun hst => ⟨0, rfl, Fr.of hst (by kernel_rfl), F0_1, F0_2, F0_3, F0, F1, hB, hZ⟩) ?_
   rintro _ c1 a' w1 ⟨x1, rfl, hF1, F2, F3, F4, F5, F6, hB, hZ⟩ hx1
   refine Fr.goOn hF1 (by kernel_rfl) ?_
   have hm := hx1
   unfold m_spec_l07Layering_bimplWiring_s1 at hm
   refine cW_seq ?_
   refine cW_seq ?_
   refine cW_region ?_
   refine wS_pure 4 [(17, .bool (decide (x1 < (((l1).length : Int))))), (16, .int .i64 (((l1).length : Int))), (15, .slice A1 (l1).length cap1), (14, .int .i64 (x1))] (by kernel_rfl) ?_
   refine wS_end (by rfl) ?_
   refine eX_then ?_
   refine cW_cond (t := decide (x1 < (((l1).length : Int)))) (by kernel_rfl) (fun hb2 => ?_) (fun hb2 => ?_)
   ·have hm := condT hb2 hm
    refine cW_skip ?_
    refine eX_then ?_
    refine cW_seq ?_
    refine cW_block ?_
    refine cW_seq ?_
    refine cW_drawnTail [] 27 (by kernel_rfl) (by kernel_rfl) (fun w2 hc1 => ?_)
    replace F2 := F2.chg hc1 Dj.nil
    replace F3 := F3.chg hc1 Dj.nil
    replace F4 := F4.chg hc1 Dj.nil
    replace F5 := F5.chg hc1 notNil
    replace F6 := F6.chg hc1 Dj.nil
    replace hB := hB.inS hc1 inNil
    replace hZ := Nat.le_trans hZ hc1.size
    have hS := Chg.refl [] w2
    have Z1 := F2
    have Z2 := F3
    have Z3 := F4
    have Z4 := F5
    have Z5 := F6
    refine wH_take [0, 1] [1, 0] [(21, .int .i64 (x1)), (20, .slice A1 (l1).length cap1)] (by kernel_rfl) (qT (qT (qB (qT (qL (qB (qT (qT qZ)))))))) (by kernel_rfl) ?_
    obtain ⟨x2, hx2, hm⟩ := bindE hm
    refine wH_idx (i := 2) (d := 22) (T := 25) (A := A1) (n := (l1).length) (cap := cap1) (kd := .i64) (m := x1) (by kernel_rfl) (qT (qT (qB (qT (qL (qB (qT (qT qZ)))))))) (by kernel_rfl) (by kernel_rfl) sl25 (F6.is hx2) ?_
    refine wH_load1 (i := 3) (d := 23) (T := 2) (ad := (elA A1 1 (x1) 0)) (v := .int .i64 (x2)) (by kernel_rfl) (qT (qT (qB (qT (qL (qB (qT (qT qZ)))))))) (by kernel_rfl) (by kernel_rfl) vt2 (fun W hW => Sl.cell (Z5.chg hW Dj.nil) hx2 0 (by rfl)) ?_
    refine wH_all [4] (by rfl) (by kernel_rfl) (by simp) ⟨⟨by kernel_rfl, ?_⟩, trivial⟩
    obtain ⟨y1, hy1, hm⟩ := bindE hm
    refine wS_calls (d := 24) (f := 87) (vs := [.int .i64 (x2), .int .i64 (0), .int .i64 (1)]) (by kernel_rfl) ent87 (c_spec_l00In hy1) ?_
    rintro _ w3 ⟨rfl, hc2⟩
    replace F2 := F2.chg hc2 Dj.nil
    replace F3 := F3.chg hc2 Dj.nil
    replace F4 := F4.chg hc2 Dj.nil
    replace F5 := F5.chg hc2 notNil
    replace F6 := F6.chg hc2 Dj.nil
    replace hB := hB.inS hc2 inNil
    have hSz := hS
    replace hS := hS.inS hc2 inNil
    replace hZ := Nat.le_trans hZ hc2.size
    refine ⟨.bool (y1), rfl, ?_⟩
    refine wS_end (by kernel_rfl) ?_
    refine eX_KH hS ?_
    refine wH_take [5, 6] [6, 5, 4, 3, 2, 1, 0] [(26, .bool (!y1)), (25, .bool (!y1))] (by kernel_rfl) (qT (qT (qB (qT (qL (qB (qT (qT qZ)))))))) (by kernel_rfl) ?_
    refine wH_bool (!y1) (fun hb3 => ?_) (fun hb3 => ?_)
    ·have hm := condT hb3 hm
     rewrite [hb3]
     refine wH_take [7, 8, 9, 10, 11, 12, 13, 14, 15, 16, 17, 18, 19, 20, 21, 22, 23, 24, 25, 26] [26, 25, 24, 23, 22, 21, 20, 19, 18, 17, 16, 15, 14, 13, 12, 11, 10, 9, 8, 7, 6, 5, 4, 3, 2, 1, 0] [(46, undef), (45, undef), (44, undef), (43, undef), (42, undef), (41, undef), (40, undef), (39, undef), (38, undef), (37, undef), (36, undef), (35, undef), (34, undef), (33, undef), (32, undef), (31, undef), (30, undef), (29, undef), (28, undef), (27, undef)] (by kernel_rfl) (qT (qT (qB (qT (qL (qB (qT (qT qZ)))))))) (by kernel_rfl) ?_
     refine wH_done (by kernel_rfl) ?_
     refine eX_tail ?_
     refine wS_pure 3 [(49, .bool (true)), (48, undef), (47, undef)] (by kernel_rfl) ?_
     refine wS_end (by rfl) ?_
     refine eX_then ?_
     refine cW_prune [(0, .pointer (some ⟨b0, 0, none⟩)), (1, .slice A1 (l1).length cap1), (5, .int .i64 (x1)), (49, .bool (true))] (by kernel_rfl) (by kernel_rfl) (fun a1 => ?_)
     refine cW_cond_t (by kernel_rfl) ?_
     refine cW_seq ?_
     refine cW_region ?_
     refine wS_pure 1 [(4, .bool (false))] (by kernel_rfl) ?_
     refine wS_end (by rfl) ?_
     refine eX_then ?_
     refine cW_ret ?_
     refine eX_block_ret ?_
     refine eX_then_ret ?_
     have hq : (some (Ctl.out (Sum.inr false)) : Option (Ctl (Int) (Sum (Unit) ((Bool))))) = some _ := hm
     replace hq := someE hq
     subst hq
     refine eX_outR hx1 (fun hr => ?_)
     subst hr
     refine eX_block_ret ?_
     refine eX_then_ret ?_
     refine eX_then_ret ?_
     have hq : (some false : Option ((Bool))) = some _ := hm1
     replace hq := someE hq
     subst hq
     refine eX_ret (vs := [.bool (false)]) [.tmp 4] (by rfl) ⟨by (show lkE _ _ _ = _); kernel_rfl, trivial⟩ ?_
     exact ⟨rfl, hB⟩
    ·have hm := condF hb3 hm
     rewrite [hb3]
     refine wH_take [7, 8, 9] [9, 8, 7, 6, 5, 4, 3, 2, 1, 0] [(29, .pointer (some ⟨b0, 3, none⟩)), (28, .pointer (some ⟨b0, 0, none⟩)), (27, .pointer (some ⟨b0, 0, none⟩))] (by kernel_rfl) (qT (qT (qB (qT (qL (qB (qT (qT qZ)))))))) (by kernel_rfl) ?_
     refine wH_load1 (i := 10) (d := 30) (T := 25) (ad := ⟨b0, 3, none⟩) (v := .slice A0_3 (l0_3).length cap0_3) (by kernel_rfl) (qT (qT (qB (qT (qL (qB (qT (qT qZ)))))))) (by kernel_rfl) (by kernel_rfl) vt25 (fun W hW => (Z4.chg hW notNil).cell 3) ?_
     refine wH_take [11] [11, 10, 9, 8, 7, 6, 5, 4, 3, 2, 1, 0] [(31, .int .i64 (x1))] (by kernel_rfl) (qT (qT (qB (qT (qL (qB (qT (qT qZ)))))))) (by kernel_rfl) ?_
     obtain ⟨x3, hx3, hm⟩ := bindE hm
     refine wH_idx (i := 12) (d := 32) (T := 25) (A := A0_3) (n := (l0_3).length) (cap := cap0_3) (kd := .i64) (m := x1) (by kernel_rfl) (qT (qT (qB (qT (qL (qB (qT (qT qZ)))))))) (by kernel_rfl) (by kernel_rfl) sl25 (F4.is hx3) ?_
     refine wH_load1 (i := 13) (d := 33) (T := 2) (ad := (elA A0_3 1 (x1) 0)) (v := .int .i64 (x3)) (by kernel_rfl) (qT (qT (qB (qT (qL (qB (qT (qT qZ)))))))) (by kernel_rfl) (by kernel_rfl) vt2 (fun W hW => Sl.cell (Z3.chg hW Dj.nil) hx3 0 (by rfl)) ?_
     refine wH_take [14, 15] [15, 14, 13, 12, 11, 10, 9, 8, 7, 6, 5, 4, 3, 2, 1, 0] [(35, .bool (decide (x3 ≥ 0))), (34, .bool (decide (x3 ≥ 0)))] (by kernel_rfl) (qT (qT (qB (qT (qL (qB (qT (qT qZ)))))))) (by kernel_rfl) ?_
     refine wH_bool (decide (x3 ≥ 0)) (fun hb4 => ?_) (fun hb4 => ?_)
     ·have hm := condT hb4 hm
      rewrite [hb4]
      refine wH_take [16, 17, 18] [18, 17, 16, 15, 14, 13, 12, 11, 10, 9, 8, 7, 6, 5, 4, 3, 2, 1, 0] [(38, .pointer (some ⟨b0, 3, none⟩)), (37, .pointer (some ⟨b0, 0, none⟩)), (36, .pointer (some ⟨b0, 0, none⟩))] (by kernel_rfl) (qT (qT (qB (qT (qL (qB (qT (qT qZ)))))))) (by kernel_rfl) ?_
      refine wH_load1 (i := 19) (d := 39) (T := 25) (ad := ⟨b0, 3, none⟩) (v := .slice A0_3 (l0_3).length cap0_3) (by kernel_rfl) (qT (qT (qB (qT (qL (qB (qT (qT qZ)))))))) (by kernel_rfl) (by kernel_rfl) vt25 (fun W hW => (Z4.chg hW notNil).cell 3) ?_
      refine wH_take [20] [20, 19, 18, 17, 16, 15, 14, 13, 12, 11, 10, 9, 8, 7, 6, 5, 4, 3, 2, 1, 0] [(40, .int .i64 (x1))] (by kernel_rfl) (qT (qT (qB (qT (qL (qB (qT (qT qZ)))))))) (by kernel_rfl) ?_
      obtain ⟨x4, hx4, hm⟩ := bindE hm
      refine wH_idx (i := 21) (d := 41) (T := 25) (A := A0_3) (n := (l0_3).length) (cap := cap0_3) (kd := .i64) (m := x1) (by kernel_rfl) (qT (qT (qB (qT (qL (qB (qT (qT qZ)))))))) (by kernel_rfl) (by kernel_rfl) sl25 (F4.is hx4) ?_
      refine wH_load1 (i := 22) (d := 42) (T := 2) (ad := (elA A0_3 1 (x1) 0)) (v := .int .i64 (x4)) (by kernel_rfl) (qT (qT (qB (qT (qL (qB (qT (qT qZ)))))))) (by kernel_rfl) (by kernel_rfl) vt2 (fun W hW => Sl.cell (Z3.chg hW Dj.nil) hx4 0 (by rfl)) ?_
      refine wH_take [23, 24] [24, 23, 22, 21, 20, 19, 18, 17, 16, 15, 14, 13, 12, 11, 10, 9, 8, 7, 6, 5, 4, 3, 2, 1, 0] [(44, .int .i64 (x1)), (43, .slice A1 (l1).length cap1)] (by kernel_rfl) (qT (qT (qB (qT (qL (qB (qT (qT qZ)))))))) (by kernel_rfl) ?_
      obtain ⟨x5, hx5, hm⟩ := bindE hm
      refine wH_idx (i := 25) (d := 45) (T := 25) (A := A1) (n := (l1).length) (cap := cap1) (kd := .i64) (m := x1) (by kernel_rfl) (qT (qT (qB (qT (qL (qB (qT (qT qZ)))))))) (by kernel_rfl) (by kernel_rfl) sl25 (F6.is hx5) ?_
      refine wH_load1 (i := 26) (d := 46) (T := 2) (ad := (elA A1 1 (x1) 0)) (v := .int .i64 (x5)) (by kernel_rfl) (qT (qT (qB (qT (qL (qB (qT (qT qZ)))))))) (by kernel_rfl) (by kernel_rfl) vt2 (fun W hW => Sl.cell (Z5.chg hW Dj.nil) hx5 0 (by rfl)) ?_
      refine wH_done (by kernel_rfl) ?_
      refine eX_tail ?_
      refine wS_pure 3 [(49, .bool (x4 != x5)), (48, .bool (x4 != x5)), (47, .bool (x4 != x5))] (by kernel_rfl) ?_
      refine wS_end (by rfl) ?_
      refine eX_then ?_
      refine cW_prune [(0, .pointer (some ⟨b0, 0, none⟩)), (1, .slice A1 (l1).length cap1), (5, .int .i64 (x1)), (49, .bool (x4 != x5))] (by kernel_rfl) (by kernel_rfl) (fun a2 => ?_)
      refine cW_cond (t := x4 != x5) (by kernel_rfl) (fun hb5 => ?_) (fun hb5 => ?_)
      ·have hm := condT hb5 hm
       refine cW_seq ?_
       refine cW_region ?_
       refine wS_pure 1 [(4, .bool (false))] (by kernel_rfl) ?_
       refine wS_end (by rfl) ?_
       refine eX_then ?_
       refine cW_ret ?_
       refine eX_block_ret ?_
       refine eX_then_ret ?_
       have hq : (some (Ctl.out (Sum.inr false)) : Option (Ctl (Int) (Sum (Unit) ((Bool))))) = some _ := hm
       replace hq := someE hq
       subst hq
       refine eX_outR hx1 (fun hr => ?_)
       subst hr
       refine eX_block_ret ?_
       refine eX_then_ret ?_
       refine eX_then_ret ?_
       have hq : (some false : Option ((Bool))) = some _ := hm1
       replace hq := someE hq
       subst hq
       refine eX_ret (vs := [.bool (false)]) [.tmp 4] (by rfl) ⟨by (show lkE _ _ _ = _); kernel_rfl, trivial⟩ ?_
       exact ⟨rfl, hB⟩
      ·have hm := condF hb5 hm
       refine cW_skip ?_
       refine eX_block ?_
       refine eX_then ?_
       refine cW_region ?_
       refine wS_pure 3 [(5, .int .i64 (wr (x1 + 1))), (19, .int .i64 (wr (x1 + 1))), (18, .int .i64 (x1))] (by kernel_rfl) ?_
       refine wS_end (by rfl) ?_
       have hq : (some (Ctl.next (wr (x1 + 1))) : Option (Ctl (Int) (Sum (Unit) ((Bool))))) = some _ := hm
       replace hq := someE hq
       subst hq
       exact eX_next hx1 (fun hst => ⟨wr (x1 + 1), rfl, Fr.of hst (by kernel_rfl), F2, F3, F4, F5, F6, hB, hZ⟩)
     ·have hm := condF hb4 hm
      rewrite [hb4]
      refine wH_take [16, 17, 18, 19, 20, 21, 22, 23, 24, 25, 26] [26, 25, 24, 23, 22, 21, 20, 19, 18, 17, 16, 15, 14, 13, 12, 11, 10, 9, 8, 7, 6, 5, 4, 3, 2, 1, 0] [(46, undef), (45, undef), (44, undef), (43, undef), (42, undef), (41, undef), (40, undef), (39, undef), (38, undef), (37, undef), (36, undef)] (by kernel_rfl) (qT (qT (qB (qT (qL (qB (qT (qT qZ)))))))) (by kernel_rfl) ?_
      refine wH_done (by kernel_rfl) ?_
      refine eX_tail ?_
      refine wS_pure 3 [(49, .bool (false)), (48, .bool (false)), (47, undef)] (by kernel_rfl) ?_
      refine wS_end (by rfl) ?_
      refine eX_then ?_
      refine cW_prune [(0, .pointer (some ⟨b0, 0, none⟩)), (1, .slice A1 (l1).length cap1), (5, .int .i64 (x1)), (49, .bool (false))] (by kernel_rfl) (by kernel_rfl) (fun a3 => ?_)
      refine cW_cond_f (by kernel_rfl) ?_
      refine cW_skip ?_
      refine eX_block ?_
      refine eX_then ?_
      refine cW_region ?_
      refine wS_pure 3 [(5, .int .i64 (wr (x1 + 1))), (19, .int .i64 (wr (x1 + 1))), (18, .int .i64 (x1))] (by kernel_rfl) ?_
      refine wS_end (by rfl) ?_
      have hq : (some (Ctl.next (wr (x1 + 1))) : Option (Ctl (Int) (Sum (Unit) ((Bool))))) = some _ := hm
      replace hq := someE hq
      subst hq
      exact eX_next hx1 (fun hst => ⟨wr (x1 + 1), rfl, Fr.of hst (by kernel_rfl), F2, F3, F4, F5, F6, hB, hZ⟩)
   ·have hm := condF hb2 hm
    refine cW_exit ?_
    refine eX_then_exit ?_
    have hq : (some (Ctl.out (Sum.inl (()))) : Option (Ctl (Int) (Sum (Unit) ((Bool))))) = some _ := hm
    replace hq := someE hq
    subst hq
    refine eX_outX hx1 (fun hr2 => ?_)
    replace hr2 := hr2.symm
    subst hr2
    refine eX_block_hit ?_
    exact eX_J (fun hst => ⟨rfl, Fr.of hst (by kernel_rfl), F2, F3, F4, F5, F6, hB, hZ⟩)
  ·rintro a' w4 ⟨hJ, hF2, F7, F8, F9, F10, F11, hB, hZ⟩
   subst hJ
   refine Fr.goX hF2 (by kernel_rfl) ?_
   refine eX_then ?_
   refine cW_seq ?_
   refine cW_seq ?_
   refine cW_region ?_
   refine wS_pure 1 [(6, .int .i64 (0))] (by kernel_rfl) ?_
   refine wS_end (by rfl) ?_
   refine eX_then ?_
   obtain ⟨r2, hr3, hm⟩ := bindE hm
   have hm2 := hm
   refine cW_cut (fun a' w' => Sum.inl (()) = r2 ∧ Fr 84 [] a' ∧ Chg [] w0 w' ∧ w0.heap.size ≤ w'.heap.size) ?_ ?_
   ·refine cW_block ?_
    refine cW_loop _ (fun (s2 : Int) a' w' => ∃ x6 : Int, x6 = s2 ∧ Fr 84 [(0, .pointer (some ⟨b0, 0, none⟩)), (1, .slice A1 (l1).length cap1), (6, .int .i64 (x6))] a' ∧ SlR 1 encI w' fp0_1 A0_1 l0_1 ∧ SlR 1 encI w' fp0_2 A0_2 l0_2 ∧ Sl 1 encI w' fp0_3 A0_3 l0_3 ∧ Cl w' b0 27 [.int .i64 (q0_0), .slice A0_1 (l0_1).length cap0_1, .slice A0_2 (l0_2).length cap0_2, .slice A0_3 (l0_3).length cap0_3] ∧ Sl 1 encI w' fp1 A1 l1 ∧ Chg [] w0 w' ∧ w0.heap.size ≤ w'.heap.size) hr3 (fun hst => ⟨0, rfl, Fr.of hst (by kernel_rfl), F7, F8, F9, F10, F11, hB, hZ⟩) ?_
    rintro _ c2 a' w5 ⟨x6, rfl, hF3, F12, F13, F14, F15, F16, hB, hZ⟩ hx6
    refine Fr.goOn hF3 (by kernel_rfl) ?_
    have hm := hx6
    unfold m_spec_l07Layering_bimplWiring_s2 at hm
    refine cW_seq ?_
    refine cW_seq ?_
    refine cW_region ?_
    refine wS_pure 4 [(53, .pointer (some ⟨b0, 1, none⟩)), (52, .pointer (some ⟨b0, 0, none⟩)), (51, .pointer (some ⟨b0, 0, none⟩)), (50, .int .i64 (x6))] (by kernel_rfl) ?_
    refine wS_load1 (d := 54) (T := 24) (ad := ⟨b0, 1, none⟩) (v := .slice A0_1 (l0_1).length cap0_1) (by kernel_rfl) vt24 ((F15).cell 1) ?_
    refine wS_pure 2 [(56, .bool (decide (x6 < (((l0_1).length : Int))))), (55, .int .i64 (((l0_1).length : Int)))] (by kernel_rfl) ?_
    refine wS_end (by rfl) ?_
    refine eX_then ?_
    refine cW_cond (t := decide (x6 < (((l0_1).length : Int)))) (by kernel_rfl) (fun hb6 => ?_) (fun hb6 => ?_)
    ·have hm := condT hb6 hm
     refine cW_skip ?_
     refine eX_then ?_
     refine cW_seq ?_
     refine cW_block ?_
     refine cW_seq ?_
     refine cW_drawnTail [] 24 (by kernel_rfl) (by kernel_rfl) (fun w6 hc3 => ?_)
     replace F12 := F12.chg hc3 Dj.nil
     replace F13 := F13.chg hc3 Dj.nil
     replace F14 := F14.chg hc3 Dj.nil
     replace F15 := F15.chg hc3 notNil
     replace F16 := F16.chg hc3 Dj.nil
     replace hB := hB.inS hc3 inNil
     replace hZ := Nat.le_trans hZ hc3.size
     have hS := Chg.refl [] w6
     have Z6 := F12
     have Z7 := F13
     have Z8 := F14
     have Z9 := F15
     have Z10 := F16
     refine wH_take [0, 1, 2, 3] [3, 2, 1, 0] [(62, .pointer (some ⟨b0, 1, none⟩)), (61, .pointer (some ⟨b0, 0, none⟩)), (60, .pointer (some ⟨b0, 0, none⟩)), (59, .slice A1 (l1).length cap1)] (by kernel_rfl) (qT (qT (qB (qT (qL (qB (qT (qT qZ)))))))) (by kernel_rfl) ?_
     refine wH_load1 (i := 4) (d := 63) (T := 24) (ad := ⟨b0, 1, none⟩) (v := .slice A0_1 (l0_1).length cap0_1) (by kernel_rfl) (qT (qT (qB (qT (qL (qB (qT (qT qZ)))))))) (by kernel_rfl) (by kernel_rfl) vt24 (fun W hW => (Z9.chg hW notNil).cell 1) ?_
     refine wH_take [5] [5, 4, 3, 2, 1, 0] [(64, .int .i64 (x6))] (by kernel_rfl) (qT (qT (qB (qT (qL (qB (qT (qT qZ)))))))) (by kernel_rfl) ?_
     obtain ⟨x7, hx7, hm⟩ := bindE hm
     refine wH_idx (i := 6) (d := 65) (T := 24) (A := A0_1) (n := (l0_1).length) (cap := cap0_1) (kd := .i64) (m := x6) (by kernel_rfl) (qT (qT (qB (qT (qL (qB (qT (qT qZ)))))))) (by kernel_rfl) (by kernel_rfl) sl24 (F12.is hx7) ?_
     obtain ⟨A2, cap2, hc4, F17, K1⟩ := SlR.row Z6 hx7
     refine wH_load1 (i := 7) (d := 66) (T := 25) (ad := (elA A0_1 1 (x6) 0)) (v := .slice A2 (x7).length cap2) (by kernel_rfl) (qT (qT (qB (qT (qL (qB (qT (qT qZ)))))))) (by kernel_rfl) (by kernel_rfl) vt25 (fun W hW => hW.keep hc4) ?_
     obtain ⟨x8, hx8, hm⟩ := bindE hm
     refine wH_idx (i := 8) (d := 67) (T := 25) (A := A2) (n := (x7).length) (cap := cap2) (kd := .i64) (m := 0) (by kernel_rfl) (qT (qT (qB (qT (qL (qB (qT (qT qZ)))))))) (by kernel_rfl) (by kernel_rfl) sl25 (F17.is hx8) ?_
     refine wH_load1 (i := 9) (d := 68) (T := 2) (ad := (elA A2 1 (0) 0)) (v := .int .i64 (x8)) (by kernel_rfl) (qT (qT (qB (qT (qL (qB (qT (qT qZ)))))))) (by kernel_rfl) (by kernel_rfl) vt2 (fun W hW => Sl.cell (F17.chg hW Dj.nil) hx8 0 (by rfl)) ?_
     obtain ⟨x9, hx9, hm⟩ := bindE hm
     refine wH_idx (i := 10) (d := 69) (T := 25) (A := A1) (n := (l1).length) (cap := cap1) (kd := .i64) (m := x8) (by kernel_rfl) (qT (qT (qB (qT (qL (qB (qT (qT qZ)))))))) (by kernel_rfl) (by kernel_rfl) sl25 (F16.is hx9) ?_
     refine wH_load1 (i := 11) (d := 70) (T := 2) (ad := (elA A1 1 (x8) 0)) (v := .int .i64 (x9)) (by kernel_rfl) (qT (qT (qB (qT (qL (qB (qT (qT qZ)))))))) (by kernel_rfl) (by kernel_rfl) vt2 (fun W hW => Sl.cell (Z10.chg hW Dj.nil) hx9 0 (by rfl)) ?_
     refine wH_take [12, 13, 14, 15] [15, 14, 13, 12, 11, 10, 9, 8, 7, 6, 5, 4, 3, 2, 1, 0] [(74, .pointer (some ⟨b0, 1, none⟩)), (73, .pointer (some ⟨b0, 0, none⟩)), (72, .pointer (some ⟨b0, 0, none⟩)), (71, .slice A1 (l1).length cap1)] (by kernel_rfl) (qT (qT (qB (qT (qL (qB (qT (qT qZ)))))))) (by kernel_rfl) ?_
     refine wH_load1 (i := 16) (d := 75) (T := 24) (ad := ⟨b0, 1, none⟩) (v := .slice A0_1 (l0_1).length cap0_1) (by kernel_rfl) (qT (qT (qB (qT (qL (qB (qT (qT qZ)))))))) (by kernel_rfl) (by kernel_rfl) vt24 (fun W hW => (Z9.chg hW notNil).cell 1) ?_
     refine wH_take [17] [17, 16, 15, 14, 13, 12, 11, 10, 9, 8, 7, 6, 5, 4, 3, 2, 1, 0] [(76, .int .i64 (x6))] (by kernel_rfl) (qT (qT (qB (qT (qL (qB (qT (qT qZ)))))))) (by kernel_rfl) ?_
     obtain ⟨x10, hx10, hm⟩ := bindE hm
     refine wH_idx (i := 18) (d := 77) (T := 24) (A := A0_1) (n := (l0_1).length) (cap := cap0_1) (kd := .i64) (m := x6) (by kernel_rfl) (qT (qT (qB (qT (qL (qB (qT (qT qZ)))))))) (by kernel_rfl) (by kernel_rfl) sl24 (F12.is hx10) ?_
     obtain ⟨A3, cap3, hc5, F18, K2⟩ := SlR.row Z6 hx10
     refine wH_load1 (i := 19) (d := 78) (T := 25) (ad := (elA A0_1 1 (x6) 0)) (v := .slice A3 (x10).length cap3) (by kernel_rfl) (qT (qT (qB (qT (qL (qB (qT (qT qZ)))))))) (by kernel_rfl) (by kernel_rfl) vt25 (fun W hW => hW.keep hc5) ?_
     obtain ⟨x11, hx11, hm⟩ := bindE hm
     refine wH_idx (i := 20) (d := 79) (T := 25) (A := A3) (n := (x10).length) (cap := cap3) (kd := .i64) (m := 1) (by kernel_rfl) (qT (qT (qB (qT (qL (qB (qT (qT qZ)))))))) (by kernel_rfl) (by kernel_rfl) sl25 (F18.is hx11) ?_
     refine wH_load1 (i := 21) (d := 80) (T := 2) (ad := (elA A3 1 (1) 0)) (v := .int .i64 (x11)) (by kernel_rfl) (qT (qT (qB (qT (qL (qB (qT (qT qZ)))))))) (by kernel_rfl) (by kernel_rfl) vt2 (fun W hW => Sl.cell (F18.chg hW Dj.nil) hx11 0 (by rfl)) ?_
     obtain ⟨x12, hx12, hm⟩ := bindE hm
     refine wH_idx (i := 22) (d := 81) (T := 25) (A := A1) (n := (l1).length) (cap := cap1) (kd := .i64) (m := x11) (by kernel_rfl) (qT (qT (qB (qT (qL (qB (qT (qT qZ)))))))) (by kernel_rfl) (by kernel_rfl) sl25 (F16.is hx12) ?_
     refine wH_load1 (i := 23) (d := 82) (T := 2) (ad := (elA A1 1 (x11) 0)) (v := .int .i64 (x12)) (by kernel_rfl) (qT (qT (qB (qT (qL (qB (qT (qT qZ)))))))) (by kernel_rfl) (by kernel_rfl) vt2 (fun W hW => Sl.cell (Z10.chg hW Dj.nil) hx12 0 (by rfl)) ?_
     refine wH_done (by kernel_rfl) ?_
     refine eX_tail ?_
     refine wS_pure 1 [(83, .bool (x9 == x12))] (by kernel_rfl) ?_
     refine wS_end (by rfl) ?_
     refine eX_then ?_
     refine cW_prune [(0, .pointer (some ⟨b0, 0, none⟩)), (1, .slice A1 (l1).length cap1), (6, .int .i64 (x6)), (83, .bool (x9 == x12))] (by kernel_rfl) (by kernel_rfl) (fun a4 => ?_)
     refine cW_cond (t := x9 == x12) (by kernel_rfl) (fun hb7 => ?_) (fun hb7 => ?_)
     ·have hm := condT hb7 hm
      refine cW_seq ?_
      refine cW_region ?_
      refine wS_pure 1 [(4, .bool (false))] (by kernel_rfl) ?_
      refine wS_end (by rfl) ?_
      refine eX_then ?_
      refine cW_ret ?_
      refine eX_block_ret ?_
      refine eX_then_ret ?_
      have hq : (some (Ctl.out (Sum.inr false)) : Option (Ctl (Int) (Sum (Unit) ((Bool))))) = some _ := hm
      replace hq := someE hq
      subst hq
      refine eX_outR hx6 (fun hr => ?_)
      subst hr
      refine eX_block_ret ?_
      refine eX_then_ret ?_
      refine eX_then_ret ?_
      have hq : (some false : Option ((Bool))) = some _ := hm2
      replace hq := someE hq
      subst hq
      refine eX_ret (vs := [.bool (false)]) [.tmp 4] (by rfl) ⟨by (show lkE _ _ _ = _); kernel_rfl, trivial⟩ ?_
      exact ⟨rfl, hB⟩
     ·have hm := condF hb7 hm
      refine cW_skip ?_
      refine eX_block ?_
      refine eX_then ?_
      refine cW_region ?_
      refine wS_pure 3 [(6, .int .i64 (wr (x6 + 1))), (58, .int .i64 (wr (x6 + 1))), (57, .int .i64 (x6))] (by kernel_rfl) ?_
      refine wS_end (by rfl) ?_
      have hq : (some (Ctl.next (wr (x6 + 1))) : Option (Ctl (Int) (Sum (Unit) ((Bool))))) = some _ := hm
      replace hq := someE hq
      subst hq
      exact eX_next hx6 (fun hst => ⟨wr (x6 + 1), rfl, Fr.of hst (by kernel_rfl), F12, F13, F14, F15, F16, hB, hZ⟩)
    ·have hm := condF hb6 hm
     refine cW_exit ?_
     refine eX_then_exit ?_
     have hq : (some (Ctl.out (Sum.inl (()))) : Option (Ctl (Int) (Sum (Unit) ((Bool))))) = some _ := hm
     replace hq := someE hq
     subst hq
     refine eX_outX hx6 (fun hr4 => ?_)
     replace hr4 := hr4.symm
     subst hr4
     refine eX_block_hit ?_
     exact eX_J (fun hst => ⟨rfl, Fr.of hst (by kernel_rfl), hB, hZ⟩)
   ·rintro a' w7 ⟨hJ, hF4, hB, hZ⟩
    subst hJ
    refine Fr.goX hF4 (by kernel_rfl) ?_
    refine eX_then ?_
    refine cW_seq ?_
    refine cW_region ?_
    refine wS_pure 1 [(4, .bool (true))] (by kernel_rfl) ?_
    refine wS_end (by rfl) ?_
    refine eX_then ?_
    refine cW_ret ?_
    have hq : (some true : Option ((Bool))) = some _ := hm
    replace hq := someE hq
    subst hq
    refine eX_ret (vs := [.bool (true)]) [.tmp 4] (by rfl) ⟨by (show lkE _ _ _ = _); kernel_rfl, trivial⟩ ?_
    exact ⟨rfl, hB⟩

end Go.Proofs.Ytngnljnfbfgfeaa
