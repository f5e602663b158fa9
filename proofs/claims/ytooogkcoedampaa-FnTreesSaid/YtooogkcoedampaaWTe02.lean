/- Printed walks: impl.steiner, impl.SteinerLength, laws.b10Abs, laws.b10Far, laws.b10At, laws.b10Pin, slices.Contains[[]impl.Point,impl.Point], impl.gain, impl.GainOf, laws.b10In, laws.FnTrees. -/
import Derived.Test.YtooogkcoedampaaProg
import Derived.Test.YtooogkcoedampaaWTe01
set_option linter.unusedSimpArgs false
set_option linter.unusedVariables false
namespace Go.Proofs.Ytooogkcoedampaa
open Go.RowKit
attribute [local irreducible] wS cW eX wH

theorem ent4 : Ent Try.prog 4 := fun _ => by kernel_rfl
theorem ent5 : Ent Try.prog 5 := fun _ => by kernel_rfl
theorem ent6 : Ent Try.prog 6 := fun _ => by kernel_rfl
theorem ent7 : Ent Try.prog 7 := fun _ => by kernel_rfl
theorem ent9 : Ent Try.prog 9 := fun _ => by kernel_rfl
theorem ent10 : Ent Try.prog 10 := fun _ => by kernel_rfl
theorem ent11 : Ent Try.prog 11 := fun _ => by kernel_rfl
theorem ent12 : Ent Try.prog 12 := fun _ => by kernel_rfl
theorem ent13 : Ent Try.prog 13 := fun _ => by kernel_rfl
theorem ent18 : Ent Try.prog 18 := fun _ => by kernel_rfl
theorem ent19 : Ent Try.prog 19 := fun _ => by kernel_rfl
theorem ent21 : Ent Try.prog 21 := fun _ => by kernel_rfl
theorem ent30 : Ent Try.prog 30 := fun _ => by kernel_rfl
theorem ent31 : Ent Try.prog 31 := fun _ => by kernel_rfl
theorem ent32 : Ent Try.prog 32 := fun _ => by kernel_rfl
theorem ent34 : Ent Try.prog 34 := fun _ => by kernel_rfl
theorem ent35 : Ent Try.prog 35 := fun _ => by kernel_rfl
theorem vt32 : VarTy Try.prog 32 1 false := ⟨by kernel_rfl, by kernel_rfl⟩
theorem sl26 : SlTy Try.prog 26 32 1 := ⟨Try.underlying26, by kernel_rfl⟩
theorem sz32 : pureRun Try.prog (sizeOf 32) = some 1 := by kernel_rfl

set_option maxRecDepth 100000 in
/-- impl.steiner -/
theorem c_impl_steiner {w0 : World} {l0 : List (Int × Int)} {A0 : Option Addr} {cap0 : Nat} {fp0 : List Nat} {r : (Int)} (hm : m_impl_steiner l0 = some r) (F0 : Sl 2 encII w0 fp0 A0 l0) :
  Calls Try.prog 18 #[.slice A0 (l0).length cap0] w0 fun e w' => e = .returned (.int .i64 (r)) ∧ Chg [] w0 w' := by
 have L0 := F0.low
 have hB : Chg [] w0 w0 := Chg.refl _ _
 have hZ := Nat.le_refl w0.heap.size
 unfold m_impl_steiner at hm
 refine enterE (N := 152) Try.func18 (by rfl) Try.ntmps18 (by simp) [(0, .slice A0 (l0).length cap0)] (by rfl) (by kernel_rfl) (fun a => ?_)
 refine cW_seq ?_
 refine cW_region ?_
 refine wS_pure 1 [(2, .int .i64 (0))] (by kernel_rfl) ?_
 refine wS_end (by rfl) ?_
 refine eX_then ?_
 refine cW_seq ?_
 refine cW_region ?_
 refine wS_pure 1 [(17, .slice A0 (l0).length cap0)] (by kernel_rfl) ?_
 obtain ⟨y1, hy1, hm⟩ := bindE hm
 refine wS_calls (d := 18) (f := 30) (vs := [.slice A0 (l0).length cap0]) (by kernel_rfl) ent30 (c_impl_hanan hy1 F0) ?_
 rintro _ w1 ⟨A1, cap1, fp1, rfl, F1, G1, hc1⟩
 replace F0 := F0.chg hc1 Dj.nil
 replace hB := hB.inS hc1 inNil
 replace G1 := low_le hZ G1
 replace hZ := Nat.le_trans hZ hc1.size
 refine ⟨.slice A1 (y1).length cap1, rfl, ?_⟩
 refine wS_pure 5 [(4, .int .i64 (wr ((((l0).length : Int)) - 1))), (3, .slice A1 (y1).length cap1), (21, .int .i64 (wr ((((l0).length : Int)) - 1))), (20, .int .i64 (((l0).length : Int))), (19, .slice A0 (l0).length cap0)] (by kernel_rfl) ?_
 refine wS_end (by rfl) ?_
 refine eX_then ?_
 refine cW_seq ?_
 refine cW_seq ?_
 refine cW_region ?_
 refine wS_pure 2 [(23, .bool ((wr ((((l0).length : Int)) - 1)) == 0)), (22, .int .i64 (wr ((((l0).length : Int)) - 1)))] (by kernel_rfl) ?_
 refine wS_end (by rfl) ?_
 refine eX_then ?_
 refine cW_cond (t := (wr ((((l0).length : Int)) - 1)) == 0) (by kernel_rfl) (fun hb1 => ?_) (fun hb1 => ?_)
 ·have hm := condT hb1 hm
  refine cW_seq ?_
  refine cW_region ?_
  refine wS_pure 1 [(2, .int .i64 (0))] (by kernel_rfl) ?_
  refine wS_end (by rfl) ?_
  refine eX_then ?_
  refine cW_ret ?_
  refine eX_then_ret ?_
  have hq : (some 0 : Option ((Int))) = some _ := hm
  replace hq := someE hq
  subst hq
  refine eX_ret (vs := [.int .i64 (0)]) [.tmp 2] (by rfl) ⟨by (show lkE _ _ _ = _); kernel_rfl, trivial⟩ ?_
  exact ⟨rfl, hB⟩
 ·have hm := condF hb1 hm
  refine cW_skip ?_
  refine eX_then ?_
  refine cW_seq ?_
  refine cW_region ?_
  refine wS_pure 1 [(24, .int .i64 (wr ((((l0).length : Int)) - 1)))] (by kernel_rfl) ?_
  obtain ⟨u1, hu1, hm⟩ := bindE hm
  refine wS_shl (d := 25) (x := 1) (y := wr ((((l0).length : Int)) - 1)) (yk := .i64) (by kernel_rfl) (p0E hu1) ?_
  obtain ⟨_, hk1, hm⟩ := bindE hm
  replace hk1 := mkE hk1
  refine wS_makeR (T2 := 2) (k := 1) (enc := encI) (d := 26) (t := 26) (T := 32) (k1 := .i64) (k2 := .i64) (m := shlI 1 (wr ((((l0).length : Int)) - 1))) (by kernel_rfl) el26 hk1.1 hk1.2 ?_
  intro b1 w2 G2 F2 hc2
  have D1 : Dj fp1 ([b1] ++ []) := Dj.of F1.low (lowApp (low1 G2) lowNil)
  replace F0 := F0.chg hc2 Dj.nil
  replace F1 := F1.chg hc2 Dj.nil
  replace hB := hB.inS hc2 inNil
  replace G2 := Nat.le_trans hZ G2
  replace G2 := low1 G2
  replace hZ := Nat.le_trans hZ hc2.size
  replace G2 := lowApp G2 lowNil
  refine wS_pure 1 [(5, .slice (some ⟨b1, 0, none⟩) (List.replicate (Int.toNat (shlI 1 (wr ((((l0).length : Int)) - 1)))) ([] : List (Int))).length (Int.toNat (shlI 1 (wr ((((l0).length : Int)) - 1)))))] (by kernel_rfl) ?_
  refine wS_end (by rfl) ?_
  refine eX_then ?_
  refine cW_seq ?_
  refine cW_seq ?_
  refine cW_region ?_
  refine wS_pure 1 [(6, .int .i64 (1))] (by kernel_rfl) ?_
  refine wS_end (by rfl) ?_
  refine eX_then ?_
  obtain ⟨r1, hr1, hm⟩ := bindE hm
  have hm1 := hm
  refine cW_cut (fun a' w' => ∃ l1 : List (List (Int)), ∃ A2 : Option Addr, ∃ cap2 : Nat, ∃ fp2 : List Nat, ∃ fr1 : List Nat, l1 = r1 ∧ Fr 152 [(0, .slice A0 (l0).length cap0), (3, .slice A1 (y1).length cap1), (4, .int .i64 (wr ((((l0).length : Int)) - 1))), (5, .slice A2 (l1).length cap2)] a' ∧ Sl 2 encII w' fp0 A0 l0 ∧ Ow 2 encII 35 w' fp1 A1 cap1 y1 ∧ OwR 1 encI 32 2 w' fp2 fr1 A2 cap2 l1 ∧ (∀ x ∈ (fp2 ++ fr1), w0.heap.size ≤ x) ∧ Dj fp1 (fp2 ++ fr1) ∧ Chg [] w0 w' ∧ w0.heap.size ≤ w'.heap.size) ?_ ?_
  ·refine cW_block ?_
   refine cW_loop _ (fun (s1 : (List (List (Int))) × Int) a' w' => ∃ l2 : List (List (Int)), ∃ A3 : Option Addr, ∃ cap3 : Nat, ∃ fp3 : List Nat, ∃ fr2 : List Nat, ∃ x1 : Int, (l2, x1) = s1 ∧ Fr 152 [(0, .slice A0 (l0).length cap0), (3, .slice A1 (y1).length cap1), (4, .int .i64 (wr ((((l0).length : Int)) - 1))), (5, .slice A3 (l2).length cap3), (6, .int .i64 (x1))] a' ∧ Sl 2 encII w' fp0 A0 l0 ∧ Ow 2 encII 35 w' fp1 A1 cap1 y1 ∧ OwR 1 encI 32 2 w' fp3 fr2 A3 cap3 l2 ∧ (∀ x ∈ (fp3 ++ fr2), w0.heap.size ≤ x) ∧ Dj fp1 (fp3 ++ fr2) ∧ Chg [] w0 w' ∧ w0.heap.size ≤ w'.heap.size) hr1 (fun hst => ⟨List.replicate (Int.toNat (shlI 1 (wr ((((l0).length : Int)) - 1)))) ([] : List (Int)), (some ⟨b1, 0, none⟩), (Int.toNat (shlI 1 (wr ((((l0).length : Int)) - 1)))), [b1], [], 1, rfl, Fr.of hst (by kernel_rfl), F0, F1, F2, G2, D1, hB, hZ⟩) ?_
   rintro _ c1 a' w3 ⟨l2, A3, cap3, fp3, fr2, x1, rfl, hF1, F3, F4, F5, G3, D2, hB, hZ⟩ hx1
   refine Fr.goOn hF1 (by kernel_rfl) ?_
   have hm := hx1
   unfold m_impl_steiner_s23 at hm
   refine cW_seq ?_
   refine cW_seq ?_
   refine cW_region ?_
   refine wS_pure 2 [(28, .int .i64 (wr ((((l0).length : Int)) - 1))), (27, .int .i64 (x1))] (by kernel_rfl) ?_
   obtain ⟨u2, hu2, hm⟩ := bindE hm
   refine wS_shl (d := 29) (x := 1) (y := wr ((((l0).length : Int)) - 1)) (yk := .i64) (by kernel_rfl) (p0E hu2) ?_
   refine wS_pure 1 [(30, .bool (decide (x1 < (shlI 1 (wr ((((l0).length : Int)) - 1))))))] (by kernel_rfl) ?_
   refine wS_end (by rfl) ?_
   refine eX_then ?_
   refine cW_cond (t := decide (x1 < (shlI 1 (wr ((((l0).length : Int)) - 1))))) (by kernel_rfl) (fun hb2 => ?_) (fun hb2 => ?_)
   ·have hm := condT hb2 hm
    refine cW_skip ?_
    refine eX_then ?_
    refine cW_seq ?_
    refine cW_block ?_
    refine cW_seq ?_
    refine cW_region ?_
    refine wS_pure 2 [(34, .int .i64 (((y1).length : Int))), (33, .slice A1 (y1).length cap1)] (by kernel_rfl) ?_
    obtain ⟨_, hk2, hm⟩ := bindE hm
    replace hk2 := mkE hk2
    refine wS_make (enc := encI) (x0 := (0 : Int)) (d := 35) (t := 32) (T := 2) (k1 := .i64) (k2 := .i64) (m := ((y1).length : Int)) (by kernel_rfl) el32 encI_ok (by rfl) hk2.1 hk2.2 ?_
    intro b2 w4 G4 F6 hc3
    have D3 : Dj fp1 [b2] := Dj.of F4.low (low1 G4)
    have D4 : Dj (fp3 ++ fr2) [b2] := Dj.of F5.low (low1 G4)
    replace F3 := F3.chg hc3 Dj.nil
    replace F4 := F4.chg hc3 Dj.nil
    replace F5 := F5.chg hc3 Dj.nil
    replace hB := hB.inS hc3 inNil
    replace G4 := Nat.le_trans hZ G4
    replace G4 := low1 G4
    replace hZ := Nat.le_trans hZ hc3.size
    refine wS_pure 1 [(7, .slice (some ⟨b2, 0, none⟩) (List.replicate (Int.toNat (((y1).length : Int))) ((0 : Int))).length (Int.toNat (((y1).length : Int))))] (by kernel_rfl) ?_
    refine wS_end (by rfl) ?_
    refine eX_then ?_
    refine cW_seq ?_
    refine cW_seq ?_
    refine cW_region ?_
    refine wS_pure 3 [(38, .int .i64 (0)), (37, .int .i64 (((y1).length : Int))), (36, .slice A1 (y1).length cap1)] (by kernel_rfl) ?_
    refine wS_end (by rfl) ?_
    refine eX_then ?_
    obtain ⟨r2, hr2, hm⟩ := bindE hm
    have hm2 := hm
    refine cW_cut (fun a' w' => ∃ l3 : List (Int), l3 = r2 ∧ Fr 152 [(0, .slice A0 (l0).length cap0), (3, .slice A1 (y1).length cap1), (4, .int .i64 (wr ((((l0).length : Int)) - 1))), (5, .slice A3 (l2).length cap3), (6, .int .i64 (x1)), (7, .slice (some ⟨b2, 0, none⟩) (l3).length (Int.toNat (((y1).length : Int))))] a' ∧ Sl 2 encII w' fp0 A0 l0 ∧ Ow 2 encII 35 w' fp1 A1 cap1 y1 ∧ OwR 1 encI 32 2 w' fp3 fr2 A3 cap3 l2 ∧ Ow 1 encI 2 w' [b2] (some ⟨b2, 0, none⟩) (Int.toNat (((y1).length : Int))) l3 ∧ Chg [] w0 w' ∧ w0.heap.size ≤ w'.heap.size) ?_ ?_
    ·refine cW_block ?_
     refine cW_loop _ (fun (s2 : Int × (List (Int))) a' w' => ∃ x2 : Int, ∃ l4 : List (Int), (x2, l4) = s2 ∧ Fr 152 [(0, .slice A0 (l0).length cap0), (3, .slice A1 (y1).length cap1), (4, .int .i64 (wr ((((l0).length : Int)) - 1))), (5, .slice A3 (l2).length cap3), (6, .int .i64 (x1)), (7, .slice (some ⟨b2, 0, none⟩) (l4).length (Int.toNat (((y1).length : Int)))), (36, .slice A1 (y1).length cap1), (37, .int .i64 (((y1).length : Int))), (38, .int .i64 (x2))] a' ∧ Sl 2 encII w' fp0 A0 l0 ∧ Ow 2 encII 35 w' fp1 A1 cap1 y1 ∧ OwR 1 encI 32 2 w' fp3 fr2 A3 cap3 l2 ∧ Ow 1 encI 2 w' [b2] (some ⟨b2, 0, none⟩) (Int.toNat (((y1).length : Int))) l4 ∧ Chg [] w0 w' ∧ w0.heap.size ≤ w'.heap.size) hr2 (fun hst => ⟨0, List.replicate (Int.toNat (((y1).length : Int))) ((0 : Int)), rfl, Fr.of hst (by kernel_rfl), F3, F4, F5, F6, hB, hZ⟩) ?_
     rintro _ c2 a' w5 ⟨x2, l4, rfl, hF2, F7, F8, F9, F10, hB, hZ⟩ hx2
     refine Fr.goOn hF2 (by kernel_rfl) ?_
     have hm := hx2
     unfold m_impl_steiner_s28 at hm
     refine cW_seq ?_
     refine cW_region ?_
     refine wS_pure 1 [(39, .bool (decide (x2 < (((y1).length : Int)))))] (by kernel_rfl) ?_
     refine wS_end (by rfl) ?_
     refine eX_then ?_
     refine cW_seq ?_
     refine cW_cond (t := decide (x2 < (((y1).length : Int)))) (by kernel_rfl) (fun hb3 => ?_) (fun hb3 => ?_)
     ·have hm := condT hb3 hm
      refine cW_skip ?_
      refine eX_then ?_
      refine cW_seq ?_
      refine cW_block ?_
      refine cW_seq ?_
      refine cW_region ?_
      refine wS_pure 1 [(40, .int .i64 (x2))] (by kernel_rfl) ?_
      obtain ⟨x3, hx3, hm⟩ := bindE hm
      refine wS_idx (d := 41) (T := 24) (A := A1) (n := (y1).length) (cap := cap1) (kd := .i64) (m := x2) (by kernel_rfl) sl24 ((F8.sl encII_ok).is hx3) ?_
      refine wS_loadA (d := 42) (T := 35) (ad := (elA A1 2 (x2) 0)) (vs := [.int .i64 (x3.1), .int .i64 (x3.2)]) (by kernel_rfl) vt35 (fun i u hu => Sl.cells_at (F8.sl encII_ok) hx3 0 hu (by rfl)) ?_
      refine wS_alloc (d := 9) (T := 35) (z := .agg #[.int .i64 (0), .int .i64 (0)]) (by kernel_rfl) (by kernel_rfl) ?_
      intro b3 w6 G5 F11 hc4
      replace F11 : Cl w6 b3 35 [.int .i64 (0), .int .i64 (0)] := F11
      have D5 : Dj fp1 [b3] := Dj.of F8.low (low1 G5)
      have D6 : Dj (fp3 ++ fr2) [b3] := Dj.of F9.low (low1 G5)
      have D7 : Dj [b2] [b3] := Dj.of F10.low (low1 G5)
      replace F7 := F7.chg hc4 Dj.nil
      replace F8 := F8.chg hc4 Dj.nil
      replace F9 := F9.chg hc4 Dj.nil
      replace F10 := F10.chg hc4 Dj.nil
      replace hB := hB.inS hc4 inNil
      replace G5 := Nat.le_trans hZ G5
      replace hZ := Nat.le_trans hZ hc4.size
      refine wS_pure 1 [(8, .int .i64 (x2))] (by kernel_rfl) ?_
      refine wS_store (T := 35) (g := b3) (o := 0) (ad := ⟨b3, 0, none⟩) (v := .agg #[.int .i64 (x3.1), .int .i64 (x3.2)]) (vs := [.int .i64 (x3.1), .int .i64 (x3.2)]) (by kernel_rfl) (by rfl) sz35 (by rfl) (by rfl) F11 (by simp only [List.length_cons, List.length_nil]; omega) ?_
      intro w7 F12 hc5
      replace F7 := F7.chg hc5 (Dj.of L0 (low1 G5))
      replace F8 := F8.chg hc5 D5
      replace F9 := F9.chg hc5 D6
      replace F10 := F10.chg hc5 D7
      replace hB := hB.inS hc5 (inLow (low1 G5))
      replace hZ := Nat.le_trans hZ hc5.size
      replace F12 : Cl w7 b3 35 [.int .i64 (x3.1), .int .i64 (x3.2)] := F12
      clear F11
      refine wS_end (by rfl) ?_
      refine eX_then ?_
      refine cW_seq ?_
      refine cW_region ?_
      refine wS_pure 2 [(44, .int .i64 (x2)), (43, .slice (some ⟨b2, 0, none⟩) (l4).length (Int.toNat (((y1).length : Int))))] (by kernel_rfl) ?_
      obtain ⟨x4, hx4, hm⟩ := bindE hm
      refine wS_idx (d := 45) (T := 32) (A := (some ⟨b2, 0, none⟩)) (n := (l4).length) (cap := (Int.toNat (((y1).length : Int)))) (kd := .i64) (m := x2) (by kernel_rfl) sl32 ((F10.sl encI_ok).is hx4) ?_
      refine wS_storeEl (x := x4) 1000000000 (T := 2) (U := 2) (cap := (Int.toNat (((y1).length : Int)))) (j := 0) (A := (some ⟨b2, 0, none⟩)) (v := .int .i64 (1000000000)) (vs := [.int .i64 (1000000000)]) (m := x2) (by kernel_rfl) (by rfl) sz2 (by rfl) encI_ok F10 hx4 (by simp only [List.length_cons, List.length_nil]; omega) (by rfl) ?_
      intro w8 F13 hc6
      replace F7 := F7.chg hc6 (Dj.of L0 G4)
      replace F8 := F8.chg hc6 D3
      replace F9 := F9.chg hc6 D4
      replace F12 := F12.chg hc6 (dj1 (D7).symm)
      replace hB := hB.inS hc6 (inLow G4)
      replace hZ := Nat.le_trans hZ hc6.size
      clear F10
      rewrite [show (l4).length = (l4.set (Int.toNat x2) 1000000000).length from (List.length_set ..).symm]
      refine wS_end (by rfl) ?_
      refine eX_then ?_
      refine cW_seq ?_
      refine cW_seq ?_
      refine cW_region ?_
      refine wS_pure 2 [(47, .int .i64 (0)), (46, .int .i64 (wr ((((l0).length : Int)) - 1)))] (by kernel_rfl) ?_
      refine wS_end (by rfl) ?_
      refine eX_then ?_
      obtain ⟨r3, hr3, hm⟩ := bindE hm
      have hm3 := hm
      refine cW_cut (fun a' w' => ∃ l5 : List (Int), l5 = r3 ∧ Fr 152 [(0, .slice A0 (l0).length cap0), (3, .slice A1 (y1).length cap1), (4, .int .i64 (wr ((((l0).length : Int)) - 1))), (5, .slice A3 (l2).length cap3), (6, .int .i64 (x1)), (7, .slice (some ⟨b2, 0, none⟩) (l5).length (Int.toNat (((y1).length : Int)))), (8, .int .i64 (x2)), (36, .slice A1 (y1).length cap1), (37, .int .i64 (((y1).length : Int))), (38, .int .i64 (x2))] a' ∧ Sl 2 encII w' fp0 A0 l0 ∧ Ow 2 encII 35 w' fp1 A1 cap1 y1 ∧ OwR 1 encI 32 2 w' fp3 fr2 A3 cap3 l2 ∧ Ow 1 encI 2 w' [b2] (some ⟨b2, 0, none⟩) (Int.toNat (((y1).length : Int))) l5 ∧ Chg [] w0 w' ∧ w0.heap.size ≤ w'.heap.size) ?_ ?_
      ·refine cW_block ?_
       refine cW_loop _ (fun (s3 : Int × (List (Int))) a' w' => ∃ x5 : Int, ∃ l6 : List (Int), (x5, l6) = s3 ∧ Fr 152 [(0, .slice A0 (l0).length cap0), (3, .slice A1 (y1).length cap1), (4, .int .i64 (wr ((((l0).length : Int)) - 1))), (5, .slice A3 (l2).length cap3), (6, .int .i64 (x1)), (7, .slice (some ⟨b2, 0, none⟩) (l6).length (Int.toNat (((y1).length : Int)))), (8, .int .i64 (x2)), (9, .pointer (some ⟨b3, 0, none⟩)), (36, .slice A1 (y1).length cap1), (37, .int .i64 (((y1).length : Int))), (38, .int .i64 (x2)), (46, .int .i64 (wr ((((l0).length : Int)) - 1))), (47, .int .i64 (x5))] a' ∧ Sl 2 encII w' fp0 A0 l0 ∧ Ow 2 encII 35 w' fp1 A1 cap1 y1 ∧ OwR 1 encI 32 2 w' fp3 fr2 A3 cap3 l2 ∧ Ow 1 encI 2 w' [b2] (some ⟨b2, 0, none⟩) (Int.toNat (((y1).length : Int))) l6 ∧ Cl w' b3 35 [.int .i64 (x3.1), .int .i64 (x3.2)] ∧ Chg [] w0 w' ∧ w0.heap.size ≤ w'.heap.size) hr3 (fun hst => ⟨0, l4.set (Int.toNat x2) 1000000000, rfl, Fr.of hst (by kernel_rfl), F7, F8, F9, F13, F12, hB, hZ⟩) ?_
       rintro _ c3 a' w9 ⟨x5, l6, rfl, hF3, F14, F15, F16, F17, F18, hB, hZ⟩ hx5
       refine Fr.goOn hF3 (by kernel_rfl) ?_
       have hm := hx5
       unfold m_impl_steiner_s29 at hm
       refine cW_seq ?_
       refine cW_region ?_
       refine wS_pure 1 [(48, .bool (decide (x5 < (wr ((((l0).length : Int)) - 1)))))] (by kernel_rfl) ?_
       refine wS_end (by rfl) ?_
       refine eX_then ?_
       refine cW_seq ?_
       refine cW_cond (t := decide (x5 < (wr ((((l0).length : Int)) - 1)))) (by kernel_rfl) (fun hb4 => ?_) (fun hb4 => ?_)
       ·have hm := condT hb4 hm
        refine cW_skip ?_
        refine eX_then ?_
        refine cW_seq ?_
        refine cW_block ?_
        obtain ⟨s4, hs1, hm⟩ := bindE hm
        refine cW_cut (fun a' w' => ∃ l7 : List (Int), l7 = s4 ∧ Fr 152 [(0, .slice A0 (l0).length cap0), (3, .slice A1 (y1).length cap1), (4, .int .i64 (wr ((((l0).length : Int)) - 1))), (5, .slice A3 (l2).length cap3), (6, .int .i64 (x1)), (7, .slice (some ⟨b2, 0, none⟩) (l7).length (Int.toNat (((y1).length : Int)))), (8, .int .i64 (x2)), (9, .pointer (some ⟨b3, 0, none⟩)), (36, .slice A1 (y1).length cap1), (37, .int .i64 (((y1).length : Int))), (38, .int .i64 (x2)), (46, .int .i64 (wr ((((l0).length : Int)) - 1))), (47, .int .i64 (x5))] a' ∧ Sl 2 encII w' fp0 A0 l0 ∧ Ow 2 encII 35 w' fp1 A1 cap1 y1 ∧ OwR 1 encI 32 2 w' fp3 fr2 A3 cap3 l2 ∧ Ow 1 encI 2 w' [b2] (some ⟨b2, 0, none⟩) (Int.toNat (((y1).length : Int))) l7 ∧ Cl w' b3 35 [.int .i64 (x3.1), .int .i64 (x3.2)] ∧ Chg [] w0 w' ∧ w0.heap.size ≤ w'.heap.size) ?_ ?_
        ·have hm := hs1
         refine cW_seq ?_
         refine cW_region ?_
         refine wS_pure 2 [(10, .int .i64 (x5)), (49, .int .i64 (x5))] (by kernel_rfl) ?_
         refine wS_end (by rfl) ?_
         refine eX_then ?_
         refine cW_seq ?_
         refine cW_region ?_
         refine wS_pure 2 [(51, .int .i64 (x5)), (50, .int .i64 (x1))] (by kernel_rfl) ?_
         obtain ⟨u3, hu3, hm⟩ := bindE hm
         refine wS_shl (d := 52) (x := 1) (y := x5) (yk := .i64) (by kernel_rfl) (p0E hu3) ?_
         refine wS_pure 1 [(53, .bool (x1 == (shlI 1 x5)))] (by kernel_rfl) ?_
         refine wS_end (by rfl) ?_
         refine eX_then ?_
         refine cW_cond (t := x1 == (shlI 1 x5)) (by kernel_rfl) (fun hb5 => ?_) (fun hb5 => ?_)
         ·have hm := condT hb5 hm
          refine cW_drawnTail [] 8 (by kernel_rfl) (by kernel_rfl) (fun w10 hc7 => ?_)
          replace F14 := F14.chg hc7 Dj.nil
          replace F15 := F15.chg hc7 Dj.nil
          replace F16 := F16.chg hc7 Dj.nil
          replace F17 := F17.chg hc7 Dj.nil
          replace F18 := F18.chg hc7 notNil
          replace hB := hB.inS hc7 inNil
          replace hZ := Nat.le_trans hZ hc7.size
          have hS := Chg.refl [] w10
          have Z1 := F14
          have Z2 := F15
          have Z3 := F16
          have Z4 := F17
          have Z5 := F18
          refine wH_take [0, 1] [1, 0] [(55, .int .i64 (x2)), (54, .slice (some ⟨b2, 0, none⟩) (l6).length (Int.toNat (((y1).length : Int))))] (by kernel_rfl) (qT (qT (qB (qT (qL (qB (qT (qT (qB (qT (qL (qB (qT (qT (qB (qT (qL (qB (qT (qT qZ)))))))))))))))))))) (by kernel_rfl) ?_
          refine wH_loadA (i := 2) (d := 56) (T := 35) (ad := ⟨b3, 0, none⟩) (vs := [.int .i64 (x3.1), .int .i64 (x3.2)]) (by kernel_rfl) (qT (qT (qB (qT (qL (qB (qT (qT (qB (qT (qL (qB (qT (qT (qB (qT (qL (qB (qT (qT qZ)))))))))))))))))))) (by kernel_rfl) (by kernel_rfl) vt35 (fun W hW i u hu => box_cells (Z5.chg hW notNil) 0 hu (by rfl)) ?_
          refine wH_take [3, 4] [4, 3, 2, 1, 0] [(58, .int .i64 (x5)), (57, .slice A0 (l0).length cap0)] (by kernel_rfl) (qT (qT (qB (qT (qL (qB (qT (qT (qB (qT (qL (qB (qT (qT (qB (qT (qL (qB (qT (qT qZ)))))))))))))))))))) (by kernel_rfl) ?_
          obtain ⟨x6, hx6, hm⟩ := bindE hm
          refine wH_idx (i := 5) (d := 59) (T := 24) (A := A0) (n := (l0).length) (cap := cap0) (kd := .i64) (m := x5) (by kernel_rfl) (qT (qT (qB (qT (qL (qB (qT (qT (qB (qT (qL (qB (qT (qT (qB (qT (qL (qB (qT (qT qZ)))))))))))))))))))) (by kernel_rfl) (by kernel_rfl) sl24 (F14.is hx6) ?_
          refine wH_loadA (i := 6) (d := 60) (T := 35) (ad := (elA A0 2 (x5) 0)) (vs := [.int .i64 (x6.1), .int .i64 (x6.2)]) (by kernel_rfl) (qT (qT (qB (qT (qL (qB (qT (qT (qB (qT (qL (qB (qT (qT (qB (qT (qL (qB (qT (qT qZ)))))))))))))))))))) (by kernel_rfl) (by kernel_rfl) vt35 (fun W hW i u hu => Sl.cells_at (Z1.chg hW Dj.nil) hx6 0 hu (by rfl)) ?_
          refine wH_all [7] (by rfl) (by kernel_rfl) (by simp) ⟨⟨by kernel_rfl, ?_⟩, trivial⟩
          obtain ⟨y2, hy2, hm⟩ := bindE hm
          refine wS_calls (d := 61) (f := 24) (vs := [.agg #[.int .i64 (x3.1), .int .i64 (x3.2)], .agg #[.int .i64 (x6.1), .int .i64 (x6.2)]]) (by kernel_rfl) ent24 (c_impl_far hy2) ?_
          rintro _ w11 ⟨rfl, hc8⟩
          replace F14 := F14.chg hc8 Dj.nil
          replace F15 := F15.chg hc8 Dj.nil
          replace F16 := F16.chg hc8 Dj.nil
          replace F17 := F17.chg hc8 Dj.nil
          replace F18 := F18.chg hc8 notNil
          replace hB := hB.inS hc8 inNil
          have hSz := hS
          replace hS := hS.inS hc8 inNil
          replace hZ := Nat.le_trans hZ hc8.size
          refine ⟨.int .i64 (y2), rfl, ?_⟩
          refine wS_end (by kernel_rfl) ?_
          refine eX_KH hS ?_
          refine wH_done (by kernel_rfl) ?_
          refine eX_tail ?_
          obtain ⟨x7, hx7, hm⟩ := bindE hm
          refine wS_idx (d := 62) (T := 32) (A := (some ⟨b2, 0, none⟩)) (n := (l6).length) (cap := (Int.toNat (((y1).length : Int)))) (kd := .i64) (m := x2) (by kernel_rfl) sl32 ((F17.sl encI_ok).is hx7) ?_
          refine wS_storeEl (x := x7) y2 (T := 2) (U := 2) (cap := (Int.toNat (((y1).length : Int)))) (j := 0) (A := (some ⟨b2, 0, none⟩)) (v := .int .i64 (y2)) (vs := [.int .i64 (y2)]) (m := x2) (by kernel_rfl) (by rfl) sz2 (by rfl) encI_ok F17 hx7 (by simp only [List.length_cons, List.length_nil]; omega) (by rfl) ?_
          intro w12 F19 hc9
          replace F14 := F14.chg hc9 (Dj.of L0 G4)
          replace F15 := F15.chg hc9 D3
          replace F16 := F16.chg hc9 D4
          replace F18 := F18.chg hc9 (dj1 (D7).symm)
          replace hB := hB.inS hc9 (inLow G4)
          replace hZ := Nat.le_trans hZ hc9.size
          clear F17
          rewrite [show (l6).length = (l6.set (Int.toNat x2) y2).length from (List.length_set ..).symm]
          refine wS_end (by rfl) ?_
          have hq : (some (l6.set (Int.toNat x2) y2) : Option ((List (Int)))) = some _ := hm
          replace hq := someE hq
          subst hq
          exact eX_J (fun hst => ⟨l6.set (Int.toNat x2) y2, rfl, Fr.of hst (by kernel_rfl), F14, F15, F16, F19, F18, hB, hZ⟩)
         ·have hm := condF hb5 hm
          refine cW_skip ?_
          have hq : (some l6 : Option ((List (Int)))) = some _ := hm
          replace hq := someE hq
          subst hq
          exact eX_J (fun hst => ⟨l6, rfl, Fr.of hst (by kernel_rfl), F14, F15, F16, F17, F18, hB, hZ⟩)
        ·rintro a' w13 ⟨l7, hJ, hF4, F20, F21, F22, F23, F24, hB, hZ⟩
         subst hJ
         refine Fr.goX hF4 (by kernel_rfl) ?_
         refine eX_block ?_
         refine eX_then ?_
         refine cW_region ?_
         refine wS_pure 2 [(47, .int .i64 (wr (x5 + 1))), (63, .int .i64 (wr (x5 + 1)))] (by kernel_rfl) ?_
         refine wS_end (by rfl) ?_
         have hq : (some (Ctl.next ((wr (x5 + 1), l7))) : Option (Ctl (Int × (List (Int))) ((List (Int))))) = some _ := hm
         replace hq := someE hq
         subst hq
         exact eX_next hx5 (fun hst => ⟨wr (x5 + 1), l7, rfl, Fr.of hst (by kernel_rfl), F20, F21, F22, F23, F24, hB, hZ⟩)
       ·have hm := condF hb4 hm
        refine cW_exit ?_
        refine eX_then_exit ?_
        have hq : (some (Ctl.out l6) : Option (Ctl (Int × (List (Int))) ((List (Int))))) = some _ := hm
        replace hq := someE hq
        subst hq
        refine eX_outX hx5 (fun hr4 => ?_)
        replace hr4 := hr4.symm
        subst hr4
        refine eX_block_hit ?_
        exact eX_J (fun hst => ⟨l6, rfl, Fr.of hst (by kernel_rfl), F14, F15, F16, F17, hB, hZ⟩)
      ·rintro a' w14 ⟨l5, hJ, hF5, F25, F26, F27, F28, hB, hZ⟩
       subst hJ
       refine Fr.goX hF5 (by kernel_rfl) ?_
       refine eX_then ?_
       refine cW_seq ?_
       refine cW_region ?_
       refine wS_pure 5 [(11, .int .i64 (andI (wr (x1 - 1)) x1)), (67, .int .i64 (andI (wr (x1 - 1)) x1)), (66, .int .i64 (x1)), (65, .int .i64 (wr (x1 - 1))), (64, .int .i64 (x1))] (by kernel_rfl) ?_
       refine wS_end (by rfl) ?_
       refine eX_then ?_
       obtain ⟨r4, hr5, hm⟩ := bindE hm
       have hm4 := hm
       refine cW_cut (fun a' w' => ∃ l8 : List (Int), l8 = r4 ∧ Fr 152 [(0, .slice A0 (l0).length cap0), (3, .slice A1 (y1).length cap1), (4, .int .i64 (wr ((((l0).length : Int)) - 1))), (5, .slice A3 (l2).length cap3), (6, .int .i64 (x1)), (7, .slice (some ⟨b2, 0, none⟩) (l8).length (Int.toNat (((y1).length : Int)))), (36, .slice A1 (y1).length cap1), (37, .int .i64 (((y1).length : Int))), (38, .int .i64 (x2))] a' ∧ Sl 2 encII w' fp0 A0 l0 ∧ Ow 2 encII 35 w' fp1 A1 cap1 y1 ∧ OwR 1 encI 32 2 w' fp3 fr2 A3 cap3 l2 ∧ Ow 1 encI 2 w' [b2] (some ⟨b2, 0, none⟩) (Int.toNat (((y1).length : Int))) l8 ∧ Chg [] w0 w' ∧ w0.heap.size ≤ w'.heap.size) ?_ ?_
       ·refine cW_block ?_
        refine cW_loop _ (fun (s5 : Int × (List (Int))) a' w' => ∃ x8 : Int, ∃ l9 : List (Int), (x8, l9) = s5 ∧ Fr 152 [(0, .slice A0 (l0).length cap0), (3, .slice A1 (y1).length cap1), (4, .int .i64 (wr ((((l0).length : Int)) - 1))), (5, .slice A3 (l2).length cap3), (6, .int .i64 (x1)), (7, .slice (some ⟨b2, 0, none⟩) (l9).length (Int.toNat (((y1).length : Int)))), (8, .int .i64 (x2)), (11, .int .i64 (x8)), (36, .slice A1 (y1).length cap1), (37, .int .i64 (((y1).length : Int))), (38, .int .i64 (x2))] a' ∧ Sl 2 encII w' fp0 A0 l0 ∧ Ow 2 encII 35 w' fp1 A1 cap1 y1 ∧ OwR 1 encI 32 2 w' fp3 fr2 A3 cap3 l2 ∧ Ow 1 encI 2 w' [b2] (some ⟨b2, 0, none⟩) (Int.toNat (((y1).length : Int))) l9 ∧ Chg [] w0 w' ∧ w0.heap.size ≤ w'.heap.size) hr5 (fun hst => ⟨andI (wr (x1 - 1)) x1, l5, rfl, Fr.of hst (by kernel_rfl), F25, F26, F27, F28, hB, hZ⟩) ?_
        rintro _ c4 a' w15 ⟨x8, l9, rfl, hF6, F29, F30, F31, F32, hB, hZ⟩ hx8
        refine Fr.goOn hF6 (by kernel_rfl) ?_
        have hm := hx8
        unfold m_impl_steiner_s30 at hm
        refine cW_seq ?_
        refine cW_seq ?_
        refine cW_region ?_
        refine wS_pure 2 [(69, .bool (decide (x8 > 0))), (68, .int .i64 (x8))] (by kernel_rfl) ?_
        refine wS_end (by rfl) ?_
        refine eX_then ?_
        refine cW_cond (t := decide (x8 > 0)) (by kernel_rfl) (fun hb6 => ?_) (fun hb6 => ?_)
        ·have hm := condT hb6 hm
         refine cW_skip ?_
         refine eX_then ?_
         refine cW_seq ?_
         refine cW_block ?_
         refine cW_drawnTail [] 24 (by kernel_rfl) (by kernel_rfl) (fun w16 hc10 => ?_)
         replace F29 := F29.chg hc10 Dj.nil
         replace F30 := F30.chg hc10 Dj.nil
         replace F31 := F31.chg hc10 Dj.nil
         replace F32 := F32.chg hc10 Dj.nil
         replace hB := hB.inS hc10 inNil
         replace hZ := Nat.le_trans hZ hc10.size
         have hS := Chg.refl [] w16
         have Z6 := F29
         have Z7 := F30
         have Z8 := F31
         have Z9 := F32
         refine wH_take [0, 1, 2, 3] [3, 2, 1, 0] [(77, .int .i64 (x2)), (76, .slice (some ⟨b2, 0, none⟩) (l9).length (Int.toNat (((y1).length : Int)))), (75, .int .i64 (x2)), (74, .slice (some ⟨b2, 0, none⟩) (l9).length (Int.toNat (((y1).length : Int))))] (by kernel_rfl) (qT (qB (qT (qL (qB (qT (qB (qT (qL (qB (qT (qT (qB (qT (qL (qB (qT (qT qZ)))))))))))))))))) (by kernel_rfl) ?_
         obtain ⟨x9, hx9, hm⟩ := bindE hm
         refine wH_idx (i := 4) (d := 78) (T := 32) (A := (some ⟨b2, 0, none⟩)) (n := (l9).length) (cap := (Int.toNat (((y1).length : Int)))) (kd := .i64) (m := x2) (by kernel_rfl) (qT (qB (qT (qL (qB (qT (qB (qT (qL (qB (qT (qT (qB (qT (qL (qB (qT (qT qZ)))))))))))))))))) (by kernel_rfl) (by kernel_rfl) sl32 ((F32.sl encI_ok).is hx9) ?_
         refine wH_load1 (i := 5) (d := 79) (T := 2) (ad := (elA (some ⟨b2, 0, none⟩) 1 (x2) 0)) (v := .int .i64 (x9)) (by kernel_rfl) (qT (qB (qT (qL (qB (qT (qB (qT (qL (qB (qT (qT (qB (qT (qL (qB (qT (qT qZ)))))))))))))))))) (by kernel_rfl) (by kernel_rfl) vt2 (fun W hW => Sl.cell ((Z9.chg hW Dj.nil).sl encI_ok) hx9 0 (by rfl)) ?_
         refine wH_take [6, 7] [7, 6, 5, 4, 3, 2, 1, 0] [(81, .int .i64 (x8)), (80, .slice A3 (l2).length cap3)] (by kernel_rfl) (qT (qB (qT (qL (qB (qT (qB (qT (qL (qB (qT (qT (qB (qT (qL (qB (qT (qT qZ)))))))))))))))))) (by kernel_rfl) ?_
         obtain ⟨x10, hx10, hm⟩ := bindE hm
         refine wH_idx (i := 8) (d := 82) (T := 26) (A := A3) (n := (l2).length) (cap := cap3) (kd := .i64) (m := x8) (by kernel_rfl) (qT (qB (qT (qL (qB (qT (qB (qT (qL (qB (qT (qT (qB (qT (qL (qB (qT (qT qZ)))))))))))))))))) (by kernel_rfl) (by kernel_rfl) sl26 ((F31.slr encI_ok).is hx10) ?_
         obtain ⟨A4, cap4, hc11, F33, K1⟩ := OwR.row Z8 encI_ok hx10
         have G6 := low_inr G3
         have Dm1 := (F31.dj).symm
         refine wH_load1 (i := 9) (d := 83) (T := 32) (ad := (elA A3 1 (x8) 0)) (v := .slice A4 (x10).length cap4) (by kernel_rfl) (qT (qB (qT (qL (qB (qT (qB (qT (qL (qB (qT (qT (qB (qT (qL (qB (qT (qT qZ)))))))))))))))))) (by kernel_rfl) (by kernel_rfl) vt32 (fun W hW => hW.keep hc11) ?_
         refine wH_take [10] [10, 9, 8, 7, 6, 5, 4, 3, 2, 1, 0] [(84, .int .i64 (x2))] (by kernel_rfl) (qT (qB (qT (qL (qB (qT (qB (qT (qL (qB (qT (qT (qB (qT (qL (qB (qT (qT qZ)))))))))))))))))) (by kernel_rfl) ?_
         obtain ⟨x11, hx11, hm⟩ := bindE hm
         refine wH_idx (i := 11) (d := 85) (T := 32) (A := A4) (n := (x10).length) (cap := cap4) (kd := .i64) (m := x2) (by kernel_rfl) (qT (qB (qT (qL (qB (qT (qB (qT (qL (qB (qT (qT (qB (qT (qL (qB (qT (qT qZ)))))))))))))))))) (by kernel_rfl) (by kernel_rfl) sl32 (F33.is hx11) ?_
         refine wH_load1 (i := 12) (d := 86) (T := 2) (ad := (elA A4 1 (x2) 0)) (v := .int .i64 (x11)) (by kernel_rfl) (qT (qB (qT (qL (qB (qT (qB (qT (qL (qB (qT (qT (qB (qT (qL (qB (qT (qT qZ)))))))))))))))))) (by kernel_rfl) (by kernel_rfl) vt2 (fun W hW => Sl.cell (F33.chg hW Dj.nil) hx11 0 (by rfl)) ?_
         refine wH_take [13, 14, 15, 16] [16, 15, 14, 13, 12, 11, 10, 9, 8, 7, 6, 5, 4, 3, 2, 1, 0] [(90, .int .i64 (andNI x1 x8)), (89, .int .i64 (x8)), (88, .int .i64 (x1)), (87, .slice A3 (l2).length cap3)] (by kernel_rfl) (qT (qB (qT (qL (qB (qT (qB (qT (qL (qB (qT (qT (qB (qT (qL (qB (qT (qT qZ)))))))))))))))))) (by kernel_rfl) ?_
         obtain ⟨x12, hx12, hm⟩ := bindE hm
         refine wH_idx (i := 17) (d := 91) (T := 26) (A := A3) (n := (l2).length) (cap := cap3) (kd := .i64) (m := andNI x1 x8) (by kernel_rfl) (qT (qB (qT (qL (qB (qT (qB (qT (qL (qB (qT (qT (qB (qT (qL (qB (qT (qT qZ)))))))))))))))))) (by kernel_rfl) (by kernel_rfl) sl26 ((F31.slr encI_ok).is hx12) ?_
         obtain ⟨A5, cap5, hc12, F34, K2⟩ := OwR.row Z8 encI_ok hx12
         have G7 := low_inr G3
         have Dm2 := (F31.dj).symm
         refine wH_load1 (i := 18) (d := 92) (T := 32) (ad := (elA A3 1 (andNI x1 x8) 0)) (v := .slice A5 (x12).length cap5) (by kernel_rfl) (qT (qB (qT (qL (qB (qT (qB (qT (qL (qB (qT (qT (qB (qT (qL (qB (qT (qT qZ)))))))))))))))))) (by kernel_rfl) (by kernel_rfl) vt32 (fun W hW => hW.keep hc12) ?_
         refine wH_take [19] [19, 18, 17, 16, 15, 14, 13, 12, 11, 10, 9, 8, 7, 6, 5, 4, 3, 2, 1, 0] [(93, .int .i64 (x2))] (by kernel_rfl) (qT (qB (qT (qL (qB (qT (qB (qT (qL (qB (qT (qT (qB (qT (qL (qB (qT (qT qZ)))))))))))))))))) (by kernel_rfl) ?_
         obtain ⟨x13, hx13, hm⟩ := bindE hm
         refine wH_idx (i := 20) (d := 94) (T := 32) (A := A5) (n := (x12).length) (cap := cap5) (kd := .i64) (m := x2) (by kernel_rfl) (qT (qB (qT (qL (qB (qT (qB (qT (qL (qB (qT (qT (qB (qT (qL (qB (qT (qT qZ)))))))))))))))))) (by kernel_rfl) (by kernel_rfl) sl32 (F34.is hx13) ?_
         refine wH_load1 (i := 21) (d := 95) (T := 2) (ad := (elA A5 1 (x2) 0)) (v := .int .i64 (x13)) (by kernel_rfl) (qT (qB (qT (qL (qB (qT (qB (qT (qL (qB (qT (qT (qB (qT (qL (qB (qT (qT qZ)))))))))))))))))) (by kernel_rfl) (by kernel_rfl) vt2 (fun W hW => Sl.cell (F34.chg hW Dj.nil) hx13 0 (by rfl)) ?_
         refine wH_take [22, 23] [23, 22, 21, 20, 19, 18, 17, 16, 15, 14, 13, 12, 11, 10, 9, 8, 7, 6, 5, 4, 3, 2, 1, 0] [(97, .int .i64 (if (wr (x11 + x13)) < x9 then (wr (x11 + x13)) else x9)), (96, .int .i64 (wr (x11 + x13)))] (by kernel_rfl) (qT (qB (qT (qL (qB (qT (qB (qT (qL (qB (qT (qT (qB (qT (qL (qB (qT (qT qZ)))))))))))))))))) (by kernel_rfl) ?_
         refine wH_done (by kernel_rfl) ?_
         refine eX_tail ?_
         obtain ⟨x14, hx14, hm⟩ := bindE hm
         refine wS_idx (d := 98) (T := 32) (A := (some ⟨b2, 0, none⟩)) (n := (l9).length) (cap := (Int.toNat (((y1).length : Int)))) (kd := .i64) (m := x2) (by kernel_rfl) sl32 ((F32.sl encI_ok).is hx14) ?_
         refine wS_storeEl (x := x14) (if (wr (x11 + x13)) < x9 then (wr (x11 + x13)) else x9) (T := 2) (U := 2) (cap := (Int.toNat (((y1).length : Int)))) (j := 0) (A := (some ⟨b2, 0, none⟩)) (v := .int .i64 (if (wr (x11 + x13)) < x9 then (wr (x11 + x13)) else x9)) (vs := [.int .i64 (if (wr (x11 + x13)) < x9 then (wr (x11 + x13)) else x9)]) (m := x2) (by kernel_rfl) (by rfl) sz2 (by rfl) encI_ok F32 hx14 (by simp only [List.length_cons, List.length_nil]; omega) (by rfl) ?_
         intro w17 F35 hc13
         replace F29 := F29.chg hc13 (Dj.of L0 G4)
         replace F30 := F30.chg hc13 D3
         replace F31 := F31.chg hc13 D4
         replace F33 := F33.chg hc13 ((Dj.inr (D4).symm)).symm
         replace F34 := F34.chg hc13 ((Dj.inr (D4).symm)).symm
         replace hB := hB.inS hc13 (inLow G4)
         replace hZ := Nat.le_trans hZ hc13.size
         clear F32
         rewrite [show (l9).length = (l9.set (Int.toNat x2) (if (wr (x11 + x13)) < x9 then (wr (x11 + x13)) else x9)).length from (List.length_set ..).symm]
         refine wS_end (by rfl) ?_
         refine eX_block ?_
         refine eX_then ?_
         refine cW_prune [(0, .slice A0 (l0).length cap0), (3, .slice A1 (y1).length cap1), (4, .int .i64 (wr ((((l0).length : Int)) - 1))), (5, .slice A3 (l2).length cap3), (6, .int .i64 (x1)), (7, .slice (some ⟨b2, 0, none⟩) (l9.set (Int.toNat x2) (if (wr (x11 + x13)) < x9 then (wr (x11 + x13)) else x9)).length (Int.toNat (((y1).length : Int)))), (8, .int .i64 (x2)), (11, .int .i64 (x8)), (36, .slice A1 (y1).length cap1), (37, .int .i64 (((y1).length : Int))), (38, .int .i64 (x2))] (by kernel_rfl) (by kernel_rfl) (fun a1 => ?_)
         refine cW_region ?_
         refine wS_pure 5 [(11, .int .i64 (andI (wr (x8 - 1)) x1)), (73, .int .i64 (andI (wr (x8 - 1)) x1)), (72, .int .i64 (x1)), (71, .int .i64 (wr (x8 - 1))), (70, .int .i64 (x8))] (by kernel_rfl) ?_
         refine wS_end (by rfl) ?_
         have hq : (some (Ctl.next ((andI (wr (x8 - 1)) x1, l9.set (Int.toNat x2) (if (wr (x11 + x13)) < x9 then (wr (x11 + x13)) else x9)))) : Option (Ctl (Int × (List (Int))) ((List (Int))))) = some _ := hm
         replace hq := someE hq
         subst hq
         exact eX_next hx8 (fun hst => ⟨andI (wr (x8 - 1)) x1, l9.set (Int.toNat x2) (if (wr (x11 + x13)) < x9 then (wr (x11 + x13)) else x9), rfl, Fr.of hst (by kernel_rfl), F29, F30, F31, F35, hB, hZ⟩)
        ·have hm := condF hb6 hm
         refine cW_exit ?_
         refine eX_then_exit ?_
         have hq : (some (Ctl.out l9) : Option (Ctl (Int × (List (Int))) ((List (Int))))) = some _ := hm
         replace hq := someE hq
         subst hq
         refine eX_outX hx8 (fun hr6 => ?_)
         replace hr6 := hr6.symm
         subst hr6
         refine eX_block_hit ?_
         exact eX_J (fun hst => ⟨l9, rfl, Fr.of hst (by kernel_rfl), F29, F30, F31, F32, hB, hZ⟩)
       ·rintro a' w18 ⟨l8, hJ, hF7, F36, F37, F38, F39, hB, hZ⟩
        subst hJ
        refine Fr.goX hF7 (by kernel_rfl) ?_
        refine eX_block ?_
        refine eX_then ?_
        refine cW_region ?_
        refine wS_pure 2 [(38, .int .i64 (wr (x2 + 1))), (99, .int .i64 (wr (x2 + 1)))] (by kernel_rfl) ?_
        refine wS_end (by rfl) ?_
        have hq : (some (Ctl.next ((wr (x2 + 1), l8))) : Option (Ctl (Int × (List (Int))) ((List (Int))))) = some _ := hm
        replace hq := someE hq
        subst hq
        exact eX_next hx2 (fun hst => ⟨wr (x2 + 1), l8, rfl, Fr.of hst (by kernel_rfl), F36, F37, F38, F39, hB, hZ⟩)
     ·have hm := condF hb3 hm
      refine cW_exit ?_
      refine eX_then_exit ?_
      have hq : (some (Ctl.out l4) : Option (Ctl (Int × (List (Int))) ((List (Int))))) = some _ := hm
      replace hq := someE hq
      subst hq
      refine eX_outX hx2 (fun hr7 => ?_)
      replace hr7 := hr7.symm
      subst hr7
      refine eX_block_hit ?_
      exact eX_J (fun hst => ⟨l4, rfl, Fr.of hst (by kernel_rfl), F7, F8, F9, F10, hB, hZ⟩)
    ·rintro a' w19 ⟨l3, hJ, hF8, F40, F41, F42, F43, hB, hZ⟩
     subst hJ
     refine Fr.goX hF8 (by kernel_rfl) ?_
     refine eX_then ?_
     refine cW_seq ?_
     refine cW_region ?_
     refine wS_pure 1 [(100, .slice (some ⟨b2, 0, none⟩) (l3).length (Int.toNat (((y1).length : Int))))] (by kernel_rfl) ?_
     obtain ⟨y3, hy3, hm⟩ := bindE hm
     refine wS_calls (d := 101) (f := 31) (vs := [.slice (some ⟨b2, 0, none⟩) (l3).length (Int.toNat (((y1).length : Int)))]) (by kernel_rfl) ent31 (c_slices_Clone_int64_int64 hy3 (F43.sl encI_ok)) ?_
     rintro _ w20 ⟨A6, cap6, fp4, rfl, F44, G8, hc14⟩
     have D8 : Dj fp1 fp4 := Dj.of F41.low G8
     have D9 : Dj (fp3 ++ fr2) fp4 := Dj.of F42.low G8
     have D10 : Dj [b2] fp4 := Dj.of F43.low G8
     replace F40 := F40.chg hc14 Dj.nil
     replace F41 := F41.chg hc14 Dj.nil
     replace F42 := F42.chg hc14 Dj.nil
     replace F43 := F43.chg hc14 Dj.nil
     replace hB := hB.inS hc14 inNil
     replace G8 := low_le hZ G8
     replace hZ := Nat.le_trans hZ hc14.size
     refine ⟨.slice A6 (y3).length cap6, rfl, ?_⟩
     refine wS_pure 1 [(12, .slice A6 (y3).length cap6)] (by kernel_rfl) ?_
     refine wS_end (by rfl) ?_
     refine eX_then ?_
     refine cW_seq ?_
     refine cW_seq ?_
     refine cW_region ?_
     refine wS_pure 3 [(104, .int .i64 (0)), (103, .int .i64 (((y1).length : Int))), (102, .slice A1 (y1).length cap1)] (by kernel_rfl) ?_
     refine wS_end (by rfl) ?_
     refine eX_then ?_
     obtain ⟨r5, hr8, hm⟩ := bindE hm
     have hm5 := hm
     refine cW_cut (fun a' w' => ∃ l10 : List (Int), l10 = r5 ∧ Fr 152 [(0, .slice A0 (l0).length cap0), (3, .slice A1 (y1).length cap1), (4, .int .i64 (wr ((((l0).length : Int)) - 1))), (5, .slice A3 (l2).length cap3), (6, .int .i64 (x1)), (12, .slice A6 (l10).length cap6)] a' ∧ Sl 2 encII w' fp0 A0 l0 ∧ Ow 2 encII 35 w' fp1 A1 cap1 y1 ∧ OwR 1 encI 32 2 w' fp3 fr2 A3 cap3 l2 ∧ Ow 1 encI 2 w' fp4 A6 cap6 l10 ∧ Chg [] w0 w' ∧ w0.heap.size ≤ w'.heap.size) ?_ ?_
     ·refine cW_block ?_
      refine cW_loop _ (fun (s6 : Int × (List (Int))) a' w' => ∃ x15 : Int, ∃ l11 : List (Int), (x15, l11) = s6 ∧ Fr 152 [(0, .slice A0 (l0).length cap0), (3, .slice A1 (y1).length cap1), (4, .int .i64 (wr ((((l0).length : Int)) - 1))), (5, .slice A3 (l2).length cap3), (6, .int .i64 (x1)), (7, .slice (some ⟨b2, 0, none⟩) (l3).length (Int.toNat (((y1).length : Int)))), (12, .slice A6 (l11).length cap6), (102, .slice A1 (y1).length cap1), (103, .int .i64 (((y1).length : Int))), (104, .int .i64 (x15))] a' ∧ Sl 2 encII w' fp0 A0 l0 ∧ Ow 2 encII 35 w' fp1 A1 cap1 y1 ∧ OwR 1 encI 32 2 w' fp3 fr2 A3 cap3 l2 ∧ Ow 1 encI 2 w' [b2] (some ⟨b2, 0, none⟩) (Int.toNat (((y1).length : Int))) l3 ∧ Ow 1 encI 2 w' fp4 A6 cap6 l11 ∧ Chg [] w0 w' ∧ w0.heap.size ≤ w'.heap.size) hr8 (fun hst => ⟨0, y3, rfl, Fr.of hst (by kernel_rfl), F40, F41, F42, F43, F44, hB, hZ⟩) ?_
      rintro _ c5 a' w21 ⟨x15, l11, rfl, hF9, F45, F46, F47, F48, F49, hB, hZ⟩ hx15
      refine Fr.goOn hF9 (by kernel_rfl) ?_
      have hm := hx15
      unfold m_impl_steiner_s33 at hm
      refine cW_seq ?_
      refine cW_region ?_
      refine wS_pure 1 [(105, .bool (decide (x15 < (((y1).length : Int)))))] (by kernel_rfl) ?_
      refine wS_end (by rfl) ?_
      refine eX_then ?_
      refine cW_seq ?_
      refine cW_cond (t := decide (x15 < (((y1).length : Int)))) (by kernel_rfl) (fun hb7 => ?_) (fun hb7 => ?_)
      ·have hm := condT hb7 hm
       refine cW_skip ?_
       refine eX_then ?_
       refine cW_seq ?_
       refine cW_block ?_
       refine cW_seq ?_
       refine cW_region ?_
       refine wS_pure 1 [(106, .int .i64 (x15))] (by kernel_rfl) ?_
       obtain ⟨x16, hx16, hm⟩ := bindE hm
       refine wS_idx (d := 107) (T := 24) (A := A1) (n := (y1).length) (cap := cap1) (kd := .i64) (m := x15) (by kernel_rfl) sl24 ((F46.sl encII_ok).is hx16) ?_
       refine wS_loadA (d := 108) (T := 35) (ad := (elA A1 2 (x15) 0)) (vs := [.int .i64 (x16.1), .int .i64 (x16.2)]) (by kernel_rfl) vt35 (fun i u hu => Sl.cells_at (F46.sl encII_ok) hx16 0 hu (by rfl)) ?_
       refine wS_alloc (d := 14) (T := 35) (z := .agg #[.int .i64 (0), .int .i64 (0)]) (by kernel_rfl) (by kernel_rfl) ?_
       intro b4 w22 G9 F50 hc15
       replace F50 : Cl w22 b4 35 [.int .i64 (0), .int .i64 (0)] := F50
       have D11 : Dj fp1 [b4] := Dj.of F46.low (low1 G9)
       have D12 : Dj (fp3 ++ fr2) [b4] := Dj.of F47.low (low1 G9)
       have D13 : Dj [b2] [b4] := Dj.of F48.low (low1 G9)
       have D14 : Dj fp4 [b4] := Dj.of F49.low (low1 G9)
       replace F45 := F45.chg hc15 Dj.nil
       replace F46 := F46.chg hc15 Dj.nil
       replace F47 := F47.chg hc15 Dj.nil
       replace F48 := F48.chg hc15 Dj.nil
       replace F49 := F49.chg hc15 Dj.nil
       replace hB := hB.inS hc15 inNil
       replace G9 := Nat.le_trans hZ G9
       replace hZ := Nat.le_trans hZ hc15.size
       refine wS_pure 1 [(13, .int .i64 (x15))] (by kernel_rfl) ?_
       refine wS_store (T := 35) (g := b4) (o := 0) (ad := ⟨b4, 0, none⟩) (v := .agg #[.int .i64 (x16.1), .int .i64 (x16.2)]) (vs := [.int .i64 (x16.1), .int .i64 (x16.2)]) (by kernel_rfl) (by rfl) sz35 (by rfl) (by rfl) F50 (by simp only [List.length_cons, List.length_nil]; omega) ?_
       intro w23 F51 hc16
       replace F45 := F45.chg hc16 (Dj.of L0 (low1 G9))
       replace F46 := F46.chg hc16 D11
       replace F47 := F47.chg hc16 D12
       replace F48 := F48.chg hc16 D13
       replace F49 := F49.chg hc16 D14
       replace hB := hB.inS hc16 (inLow (low1 G9))
       replace hZ := Nat.le_trans hZ hc16.size
       replace F51 : Cl w23 b4 35 [.int .i64 (x16.1), .int .i64 (x16.2)] := F51
       clear F50
       refine wS_end (by rfl) ?_
       refine eX_then ?_
       refine cW_seq ?_
       refine cW_region ?_
       refine wS_pure 3 [(111, .int .i64 (0)), (110, .int .i64 (((y1).length : Int))), (109, .slice A1 (y1).length cap1)] (by kernel_rfl) ?_
       refine wS_end (by rfl) ?_
       refine eX_then ?_
       obtain ⟨r6, hr9, hm⟩ := bindE hm
       have hm6 := hm
       refine cW_cut (fun a' w' => ∃ l12 : List (Int), l12 = r6 ∧ Fr 152 [(0, .slice A0 (l0).length cap0), (3, .slice A1 (y1).length cap1), (4, .int .i64 (wr ((((l0).length : Int)) - 1))), (5, .slice A3 (l2).length cap3), (6, .int .i64 (x1)), (7, .slice (some ⟨b2, 0, none⟩) (l3).length (Int.toNat (((y1).length : Int)))), (12, .slice A6 (l12).length cap6), (102, .slice A1 (y1).length cap1), (103, .int .i64 (((y1).length : Int))), (104, .int .i64 (x15))] a' ∧ Sl 2 encII w' fp0 A0 l0 ∧ Ow 2 encII 35 w' fp1 A1 cap1 y1 ∧ OwR 1 encI 32 2 w' fp3 fr2 A3 cap3 l2 ∧ Ow 1 encI 2 w' [b2] (some ⟨b2, 0, none⟩) (Int.toNat (((y1).length : Int))) l3 ∧ Ow 1 encI 2 w' fp4 A6 cap6 l12 ∧ Chg [] w0 w' ∧ w0.heap.size ≤ w'.heap.size) ?_ ?_
       ·refine cW_block ?_
        refine cW_loop _ (fun (s7 : Int × (List (Int))) a' w' => ∃ x17 : Int, ∃ l13 : List (Int), (x17, l13) = s7 ∧ Fr 152 [(0, .slice A0 (l0).length cap0), (3, .slice A1 (y1).length cap1), (4, .int .i64 (wr ((((l0).length : Int)) - 1))), (5, .slice A3 (l2).length cap3), (6, .int .i64 (x1)), (7, .slice (some ⟨b2, 0, none⟩) (l3).length (Int.toNat (((y1).length : Int)))), (12, .slice A6 (l13).length cap6), (13, .int .i64 (x15)), (14, .pointer (some ⟨b4, 0, none⟩)), (102, .slice A1 (y1).length cap1), (103, .int .i64 (((y1).length : Int))), (104, .int .i64 (x15)), (109, .slice A1 (y1).length cap1), (110, .int .i64 (((y1).length : Int))), (111, .int .i64 (x17))] a' ∧ Sl 2 encII w' fp0 A0 l0 ∧ Ow 2 encII 35 w' fp1 A1 cap1 y1 ∧ OwR 1 encI 32 2 w' fp3 fr2 A3 cap3 l2 ∧ Ow 1 encI 2 w' [b2] (some ⟨b2, 0, none⟩) (Int.toNat (((y1).length : Int))) l3 ∧ Ow 1 encI 2 w' fp4 A6 cap6 l13 ∧ Cl w' b4 35 [.int .i64 (x16.1), .int .i64 (x16.2)] ∧ Chg [] w0 w' ∧ w0.heap.size ≤ w'.heap.size) hr9 (fun hst => ⟨0, l11, rfl, Fr.of hst (by kernel_rfl), F45, F46, F47, F48, F49, F51, hB, hZ⟩) ?_
        rintro _ c6 a' w24 ⟨x17, l13, rfl, hF10, F52, F53, F54, F55, F56, F57, hB, hZ⟩ hx17
        refine Fr.goOn hF10 (by kernel_rfl) ?_
        have hm := hx17
        unfold m_impl_steiner_s34 at hm
        refine cW_seq ?_
        refine cW_region ?_
        refine wS_pure 1 [(112, .bool (decide (x17 < (((y1).length : Int)))))] (by kernel_rfl) ?_
        refine wS_end (by rfl) ?_
        refine eX_then ?_
        refine cW_seq ?_
        refine cW_cond (t := decide (x17 < (((y1).length : Int)))) (by kernel_rfl) (fun hb8 => ?_) (fun hb8 => ?_)
        ·have hm := condT hb8 hm
         refine cW_skip ?_
         refine eX_then ?_
         refine cW_seq ?_
         refine cW_block ?_
         refine cW_seq ?_
         refine cW_region ?_
         refine wS_pure 1 [(113, .int .i64 (x17))] (by kernel_rfl) ?_
         obtain ⟨x18, hx18, hm⟩ := bindE hm
         refine wS_idx (d := 114) (T := 24) (A := A1) (n := (y1).length) (cap := cap1) (kd := .i64) (m := x17) (by kernel_rfl) sl24 ((F53.sl encII_ok).is hx18) ?_
         refine wS_loadA (d := 115) (T := 35) (ad := (elA A1 2 (x17) 0)) (vs := [.int .i64 (x18.1), .int .i64 (x18.2)]) (by kernel_rfl) vt35 (fun i u hu => Sl.cells_at (F53.sl encII_ok) hx18 0 hu (by rfl)) ?_
         refine wS_alloc (d := 16) (T := 35) (z := .agg #[.int .i64 (0), .int .i64 (0)]) (by kernel_rfl) (by kernel_rfl) ?_
         intro b5 w25 G10 F58 hc17
         replace F58 : Cl w25 b5 35 [.int .i64 (0), .int .i64 (0)] := F58
         have D15 : Dj fp1 [b5] := Dj.of F53.low (low1 G10)
         have D16 : Dj (fp3 ++ fr2) [b5] := Dj.of F54.low (low1 G10)
         have D17 : Dj [b2] [b5] := Dj.of F55.low (low1 G10)
         have D18 : Dj fp4 [b5] := Dj.of F56.low (low1 G10)
         have D19 : Dj [b4] [b5] := Dj.of (lt1 F57.lt) (low1 G10)
         replace F52 := F52.chg hc17 Dj.nil
         replace F53 := F53.chg hc17 Dj.nil
         replace F54 := F54.chg hc17 Dj.nil
         replace F55 := F55.chg hc17 Dj.nil
         replace F56 := F56.chg hc17 Dj.nil
         replace F57 := F57.chg hc17 notNil
         replace hB := hB.inS hc17 inNil
         replace G10 := Nat.le_trans hZ G10
         replace hZ := Nat.le_trans hZ hc17.size
         refine wS_pure 1 [(15, .int .i64 (x17))] (by kernel_rfl) ?_
         refine wS_store (T := 35) (g := b5) (o := 0) (ad := ⟨b5, 0, none⟩) (v := .agg #[.int .i64 (x18.1), .int .i64 (x18.2)]) (vs := [.int .i64 (x18.1), .int .i64 (x18.2)]) (by kernel_rfl) (by rfl) sz35 (by rfl) (by rfl) F58 (by simp only [List.length_cons, List.length_nil]; omega) ?_
         intro w26 F59 hc18
         replace F52 := F52.chg hc18 (Dj.of L0 (low1 G10))
         replace F53 := F53.chg hc18 D15
         replace F54 := F54.chg hc18 D16
         replace F55 := F55.chg hc18 D17
         replace F56 := F56.chg hc18 D18
         replace F57 := F57.chg hc18 (dj1 D19)
         replace hB := hB.inS hc18 (inLow (low1 G10))
         replace hZ := Nat.le_trans hZ hc18.size
         replace F59 : Cl w26 b5 35 [.int .i64 (x18.1), .int .i64 (x18.2)] := F59
         clear F58
         refine wS_end (by rfl) ?_
         refine eX_then ?_
         refine cW_drawnTail [] 15 (by kernel_rfl) (by kernel_rfl) (fun w27 hc19 => ?_)
         replace F52 := F52.chg hc19 Dj.nil
         replace F53 := F53.chg hc19 Dj.nil
         replace F54 := F54.chg hc19 Dj.nil
         replace F55 := F55.chg hc19 Dj.nil
         replace F56 := F56.chg hc19 Dj.nil
         replace F57 := F57.chg hc19 notNil
         replace F59 := F59.chg hc19 notNil
         replace hB := hB.inS hc19 inNil
         replace hZ := Nat.le_trans hZ hc19.size
         have hS := Chg.refl [] w27
         have Z10 := F52
         have Z11 := F53
         have Z12 := F54
         have Z13 := F55
         have Z14 := F56
         have Z15 := F57
         have Z16 := F59
         refine wH_take [0, 1, 2, 3] [3, 2, 1, 0] [(119, .int .i64 (x15)), (118, .slice A6 (l13).length cap6), (117, .int .i64 (x15)), (116, .slice A6 (l13).length cap6)] (by kernel_rfl) (qT (qB (qT (qL (qB (qT (qB (qT (qL (qB (qT (qT (qB (qT (qL (qB (qT (qT qZ)))))))))))))))))) (by kernel_rfl) ?_
         obtain ⟨x19, hx19, hm⟩ := bindE hm
         refine wH_idx (i := 4) (d := 120) (T := 32) (A := A6) (n := (l13).length) (cap := cap6) (kd := .i64) (m := x15) (by kernel_rfl) (qT (qB (qT (qL (qB (qT (qB (qT (qL (qB (qT (qT (qB (qT (qL (qB (qT (qT qZ)))))))))))))))))) (by kernel_rfl) (by kernel_rfl) sl32 ((F56.sl encI_ok).is hx19) ?_
         refine wH_load1 (i := 5) (d := 121) (T := 2) (ad := (elA A6 1 (x15) 0)) (v := .int .i64 (x19)) (by kernel_rfl) (qT (qB (qT (qL (qB (qT (qB (qT (qL (qB (qT (qT (qB (qT (qL (qB (qT (qT qZ)))))))))))))))))) (by kernel_rfl) (by kernel_rfl) vt2 (fun W hW => Sl.cell ((Z14.chg hW Dj.nil).sl encI_ok) hx19 0 (by rfl)) ?_
         refine wH_take [6, 7] [7, 6, 5, 4, 3, 2, 1, 0] [(123, .int .i64 (x17)), (122, .slice (some ⟨b2, 0, none⟩) (l3).length (Int.toNat (((y1).length : Int))))] (by kernel_rfl) (qT (qB (qT (qL (qB (qT (qB (qT (qL (qB (qT (qT (qB (qT (qL (qB (qT (qT qZ)))))))))))))))))) (by kernel_rfl) ?_
         obtain ⟨x20, hx20, hm⟩ := bindE hm
         refine wH_idx (i := 8) (d := 124) (T := 32) (A := (some ⟨b2, 0, none⟩)) (n := (l3).length) (cap := (Int.toNat (((y1).length : Int)))) (kd := .i64) (m := x17) (by kernel_rfl) (qT (qB (qT (qL (qB (qT (qB (qT (qL (qB (qT (qT (qB (qT (qL (qB (qT (qT qZ)))))))))))))))))) (by kernel_rfl) (by kernel_rfl) sl32 ((F55.sl encI_ok).is hx20) ?_
         refine wH_load1 (i := 9) (d := 125) (T := 2) (ad := (elA (some ⟨b2, 0, none⟩) 1 (x17) 0)) (v := .int .i64 (x20)) (by kernel_rfl) (qT (qB (qT (qL (qB (qT (qB (qT (qL (qB (qT (qT (qB (qT (qL (qB (qT (qT qZ)))))))))))))))))) (by kernel_rfl) (by kernel_rfl) vt2 (fun W hW => Sl.cell ((Z13.chg hW Dj.nil).sl encI_ok) hx20 0 (by rfl)) ?_
         refine wH_loadA (i := 10) (d := 126) (T := 35) (ad := ⟨b4, 0, none⟩) (vs := [.int .i64 (x16.1), .int .i64 (x16.2)]) (by kernel_rfl) (qT (qB (qT (qL (qB (qT (qB (qT (qL (qB (qT (qT (qB (qT (qL (qB (qT (qT qZ)))))))))))))))))) (by kernel_rfl) (by kernel_rfl) vt35 (fun W hW i u hu => box_cells (Z15.chg hW notNil) 0 hu (by rfl)) ?_
         refine wH_loadA (i := 11) (d := 127) (T := 35) (ad := ⟨b5, 0, none⟩) (vs := [.int .i64 (x18.1), .int .i64 (x18.2)]) (by kernel_rfl) (qT (qB (qT (qL (qB (qT (qB (qT (qL (qB (qT (qT (qB (qT (qL (qB (qT (qT qZ)))))))))))))))))) (by kernel_rfl) (by kernel_rfl) vt35 (fun W hW i u hu => box_cells (Z16.chg hW notNil) 0 hu (by rfl)) ?_
         refine wH_all [12] (by rfl) (by kernel_rfl) (by simp) ⟨⟨by kernel_rfl, ?_⟩, trivial⟩
         obtain ⟨y4, hy4, hm⟩ := bindE hm
         refine wS_calls (d := 128) (f := 24) (vs := [.agg #[.int .i64 (x16.1), .int .i64 (x16.2)], .agg #[.int .i64 (x18.1), .int .i64 (x18.2)]]) (by kernel_rfl) ent24 (c_impl_far hy4) ?_
         rintro _ w28 ⟨rfl, hc20⟩
         replace F52 := F52.chg hc20 Dj.nil
         replace F53 := F53.chg hc20 Dj.nil
         replace F54 := F54.chg hc20 Dj.nil
         replace F55 := F55.chg hc20 Dj.nil
         replace F56 := F56.chg hc20 Dj.nil
         replace F57 := F57.chg hc20 notNil
         replace F59 := F59.chg hc20 notNil
         replace hB := hB.inS hc20 inNil
         have hSz := hS
         replace hS := hS.inS hc20 inNil
         replace hZ := Nat.le_trans hZ hc20.size
         refine ⟨.int .i64 (y4), rfl, ?_⟩
         refine wS_end (by kernel_rfl) ?_
         refine eX_KH hS ?_
         refine wH_take [13, 14] [14, 13, 12, 11, 10, 9, 8, 7, 6, 5, 4, 3, 2, 1, 0] [(130, .int .i64 (if (wr (x20 + y4)) < x19 then (wr (x20 + y4)) else x19)), (129, .int .i64 (wr (x20 + y4)))] (by kernel_rfl) (qT (qB (qT (qL (qB (qT (qB (qT (qL (qB (qT (qT (qB (qT (qL (qB (qT (qT qZ)))))))))))))))))) (by kernel_rfl) ?_
         refine wH_done (by kernel_rfl) ?_
         refine eX_tail ?_
         obtain ⟨x21, hx21, hm⟩ := bindE hm
         refine wS_idx (d := 131) (T := 32) (A := A6) (n := (l13).length) (cap := cap6) (kd := .i64) (m := x15) (by kernel_rfl) sl32 ((F56.sl encI_ok).is hx21) ?_
         refine wS_storeEl (x := x21) (if (wr (x20 + y4)) < x19 then (wr (x20 + y4)) else x19) (T := 2) (U := 2) (cap := cap6) (j := 0) (A := A6) (v := .int .i64 (if (wr (x20 + y4)) < x19 then (wr (x20 + y4)) else x19)) (vs := [.int .i64 (if (wr (x20 + y4)) < x19 then (wr (x20 + y4)) else x19)]) (m := x15) (by kernel_rfl) (by rfl) sz2 (by rfl) encI_ok F56 hx21 (by simp only [List.length_cons, List.length_nil]; omega) (by rfl) ?_
         intro w29 F60 hc21
         replace F52 := F52.chg hc21 (Dj.of L0 G8)
         replace F53 := F53.chg hc21 D8
         replace F54 := F54.chg hc21 D9
         replace F55 := F55.chg hc21 D10
         replace F57 := F57.chg hc21 (dj1 (D14).symm)
         replace F59 := F59.chg hc21 (dj1 (D18).symm)
         replace hB := hB.inS hc21 (inLow G8)
         replace hZ := Nat.le_trans hZ hc21.size
         clear F56
         rewrite [show (l13).length = (l13.set (Int.toNat x15) (if (wr (x20 + y4)) < x19 then (wr (x20 + y4)) else x19)).length from (List.length_set ..).symm]
         refine wS_end (by rfl) ?_
         refine eX_block ?_
         refine eX_then ?_
         refine cW_prune [(0, .slice A0 (l0).length cap0), (3, .slice A1 (y1).length cap1), (4, .int .i64 (wr ((((l0).length : Int)) - 1))), (5, .slice A3 (l2).length cap3), (6, .int .i64 (x1)), (7, .slice (some ⟨b2, 0, none⟩) (l3).length (Int.toNat (((y1).length : Int)))), (12, .slice A6 (l13.set (Int.toNat x15) (if (wr (x20 + y4)) < x19 then (wr (x20 + y4)) else x19)).length cap6), (13, .int .i64 (x15)), (14, .pointer (some ⟨b4, 0, none⟩)), (102, .slice A1 (y1).length cap1), (103, .int .i64 (((y1).length : Int))), (104, .int .i64 (x15)), (109, .slice A1 (y1).length cap1), (110, .int .i64 (((y1).length : Int))), (111, .int .i64 (x17))] (by kernel_rfl) (by kernel_rfl) (fun a2 => ?_)
         refine cW_region ?_
         refine wS_pure 2 [(111, .int .i64 (wr (x17 + 1))), (132, .int .i64 (wr (x17 + 1)))] (by kernel_rfl) ?_
         refine wS_end (by rfl) ?_
         have hq : (some (Ctl.next ((wr (x17 + 1), l13.set (Int.toNat x15) (if (wr (x20 + y4)) < x19 then (wr (x20 + y4)) else x19)))) : Option (Ctl (Int × (List (Int))) ((List (Int))))) = some _ := hm
         replace hq := someE hq
         subst hq
         exact eX_next hx17 (fun hst => ⟨wr (x17 + 1), l13.set (Int.toNat x15) (if (wr (x20 + y4)) < x19 then (wr (x20 + y4)) else x19), rfl, Fr.of hst (by kernel_rfl), F52, F53, F54, F55, F60, F57, hB, hZ⟩)
        ·have hm := condF hb8 hm
         refine cW_exit ?_
         refine eX_then_exit ?_
         have hq : (some (Ctl.out l13) : Option (Ctl (Int × (List (Int))) ((List (Int))))) = some _ := hm
         replace hq := someE hq
         subst hq
         refine eX_outX hx17 (fun hr10 => ?_)
         replace hr10 := hr10.symm
         subst hr10
         refine eX_block_hit ?_
         exact eX_J (fun hst => ⟨l13, rfl, Fr.of hst (by kernel_rfl), F52, F53, F54, F55, F56, hB, hZ⟩)
       ·rintro a' w30 ⟨l12, hJ, hF11, F61, F62, F63, F64, F65, hB, hZ⟩
        subst hJ
        refine Fr.goX hF11 (by kernel_rfl) ?_
        refine eX_block ?_
        refine eX_then ?_
        refine cW_region ?_
        refine wS_pure 2 [(104, .int .i64 (wr (x15 + 1))), (133, .int .i64 (wr (x15 + 1)))] (by kernel_rfl) ?_
        refine wS_end (by rfl) ?_
        have hq : (some (Ctl.next ((wr (x15 + 1), l12))) : Option (Ctl (Int × (List (Int))) ((List (Int))))) = some _ := hm
        replace hq := someE hq
        subst hq
        exact eX_next hx15 (fun hst => ⟨wr (x15 + 1), l12, rfl, Fr.of hst (by kernel_rfl), F61, F62, F63, F64, F65, hB, hZ⟩)
      ·have hm := condF hb7 hm
       refine cW_exit ?_
       refine eX_then_exit ?_
       have hq : (some (Ctl.out l11) : Option (Ctl (Int × (List (Int))) ((List (Int))))) = some _ := hm
       replace hq := someE hq
       subst hq
       refine eX_outX hx15 (fun hr11 => ?_)
       replace hr11 := hr11.symm
       subst hr11
       refine eX_block_hit ?_
       exact eX_J (fun hst => ⟨l11, rfl, Fr.of hst (by kernel_rfl), F45, F46, F47, F49, hB, hZ⟩)
     ·rintro a' w31 ⟨l10, hJ, hF12, F66, F67, F68, F69, hB, hZ⟩
      subst hJ
      refine Fr.goX hF12 (by kernel_rfl) ?_
      refine eX_then ?_
      refine cW_region ?_
      refine wS_pure 3 [(136, .slice A6 (l10).length cap6), (135, .int .i64 (x1)), (134, .slice A3 (l2).length cap3)] (by kernel_rfl) ?_
      obtain ⟨x22, hx22, hm⟩ := bindE hm
      refine wS_idx (d := 137) (T := 26) (A := A3) (n := (l2).length) (cap := cap3) (kd := .i64) (m := x1) (by kernel_rfl) sl26 ((F68.slr encI_ok).is hx22) ?_
      refine wS_storeRow (k := 1) (enc := encI) (x := x22) (l := l10) (T := 32) (U := 32) (cap := cap3) (c := cap6) (A := A3) (B := A6) (m := x1) (by kernel_rfl) sz32 F68 F69 D9 hx22 ?_
      intro w32 F70 hc22
      have D20 : Dj fp1 (fp3 ++ (fr2 ++ fp4)) := Dj.app (Dj.inl D2) (Dj.app (Dj.inr D2) D8)
      have G11 := lowApp (low_inl G3) (lowApp (low_inr G3) G8)
      have Dm3 := Dj.inl D9.symm
      replace F66 := F66.chg hc22 (Dj.inl (Dj.of L0 G3))
      replace F67 := F67.chg hc22 (Dj.inl D2)
      replace F69 := F69.chg hc22 (Dj.inl (D9).symm)
      replace hB := hB.inS hc22 (memS_inl (inLow G3))
      replace hZ := Nat.le_trans hZ hc22.size
      replace F69 := (F69.sl encI_ok)
      rewrite [show (l2).length = (l2.set (Int.toNat x1) l10).length from (List.length_set ..).symm]
      refine wS_end (by rfl) ?_
      refine eX_block ?_
      refine eX_then ?_
      refine cW_region ?_
      refine wS_pure 3 [(6, .int .i64 (wr (x1 + 1))), (32, .int .i64 (wr (x1 + 1))), (31, .int .i64 (x1))] (by kernel_rfl) ?_
      refine wS_end (by rfl) ?_
      have hq : (some (Ctl.next ((l2.set (Int.toNat x1) l10, wr (x1 + 1)))) : Option (Ctl ((List (List (Int))) × Int) ((List (List (Int)))))) = some _ := hm
      replace hq := someE hq
      subst hq
      exact eX_next hx1 (fun hst => ⟨l2.set (Int.toNat x1) l10, A3, cap3, fp3, (fr2 ++ fp4), wr (x1 + 1), rfl, Fr.of hst (by kernel_rfl), F66, F67, F70, G11, D20, hB, hZ⟩)
   ·have hm := condF hb2 hm
    refine cW_exit ?_
    refine eX_then_exit ?_
    have hq : (some (Ctl.out l2) : Option (Ctl ((List (List (Int))) × Int) ((List (List (Int)))))) = some _ := hm
    replace hq := someE hq
    subst hq
    refine eX_outX hx1 (fun hr12 => ?_)
    replace hr12 := hr12.symm
    subst hr12
    refine eX_block_hit ?_
    exact eX_J (fun hst => ⟨l2, A3, cap3, fp3, fr2, rfl, Fr.of hst (by kernel_rfl), F3, F4, F5, G3, D2, hB, hZ⟩)
  ·rintro a' w33 ⟨l1, A2, cap2, fp2, fr1, hJ, hF13, F71, F72, F73, G12, D21, hB, hZ⟩
   subst hJ
   refine Fr.goX hF13 (by kernel_rfl) ?_
   refine eX_then ?_
   refine cW_seq ?_
   refine cW_drawnTail [] 12 (by kernel_rfl) (by kernel_rfl) (fun w34 hc23 => ?_)
   replace F71 := F71.chg hc23 Dj.nil
   replace F72 := F72.chg hc23 Dj.nil
   replace F73 := F73.chg hc23 Dj.nil
   replace hB := hB.inS hc23 inNil
   replace hZ := Nat.le_trans hZ hc23.size
   have hS := Chg.refl [] w34
   have Z17 := F71
   have Z18 := F72
   have Z19 := F73
   refine wH_take [0, 1] [1, 0] [(139, .int .i64 (wr ((((l0).length : Int)) - 1))), (138, .slice A2 (l1).length cap2)] (by kernel_rfl) (qT (qT qZ)) (by kernel_rfl) ?_
   obtain ⟨u4, hu4, hm⟩ := bindE hm
   refine wH_shl (i := 2) (d := 140) (x := 1) (y := wr ((((l0).length : Int)) - 1)) (yk := .i64) (by kernel_rfl) (qT (qT qZ)) (by kernel_rfl) (by kernel_rfl) (p0E hu4) ?_
   refine wH_take [3] [3, 2, 1, 0] [(141, .int .i64 (wr ((shlI 1 (wr ((((l0).length : Int)) - 1))) - 1)))] (by kernel_rfl) (qT (qT qZ)) (by kernel_rfl) ?_
   obtain ⟨x23, hx23, hm⟩ := bindE hm
   refine wH_idx (i := 4) (d := 142) (T := 26) (A := A2) (n := (l1).length) (cap := cap2) (kd := .i64) (m := wr ((shlI 1 (wr ((((l0).length : Int)) - 1))) - 1)) (by kernel_rfl) (qT (qT qZ)) (by kernel_rfl) (by kernel_rfl) sl26 ((F73.slr encI_ok).is hx23) ?_
   obtain ⟨A7, cap7, hc24, F74, K3⟩ := OwR.row Z19 encI_ok hx23
   have G13 := low_inr G12
   have Dm4 := (F73.dj).symm
   refine wH_load1 (i := 5) (d := 143) (T := 32) (ad := (elA A2 1 (wr ((shlI 1 (wr ((((l0).length : Int)) - 1))) - 1)) 0)) (v := .slice A7 (x23).length cap7) (by kernel_rfl) (qT (qT qZ)) (by kernel_rfl) (by kernel_rfl) vt32 (fun W hW => hW.keep hc24) ?_
   refine wH_take [6, 7, 8] [8, 7, 6, 5, 4, 3, 2, 1, 0] [(146, .int .i64 (wr ((((l0).length : Int)) - 1))), (145, .slice A0 (l0).length cap0), (144, .slice A1 (y1).length cap1)] (by kernel_rfl) (qT (qT qZ)) (by kernel_rfl) ?_
   obtain ⟨x24, hx24, hm⟩ := bindE hm
   refine wH_idx (i := 9) (d := 147) (T := 24) (A := A0) (n := (l0).length) (cap := cap0) (kd := .i64) (m := wr ((((l0).length : Int)) - 1)) (by kernel_rfl) (qT (qT qZ)) (by kernel_rfl) (by kernel_rfl) sl24 (F71.is hx24) ?_
   refine wH_loadA (i := 10) (d := 148) (T := 35) (ad := (elA A0 2 (wr ((((l0).length : Int)) - 1)) 0)) (vs := [.int .i64 (x24.1), .int .i64 (x24.2)]) (by kernel_rfl) (qT (qT qZ)) (by kernel_rfl) (by kernel_rfl) vt35 (fun W hW i u hu => Sl.cells_at (Z17.chg hW Dj.nil) hx24 0 hu (by rfl)) ?_
   refine wH_all [11] (by rfl) (by kernel_rfl) (by simp) ⟨⟨by kernel_rfl, ?_⟩, trivial⟩
   obtain ⟨y5, hy5, hm⟩ := bindE hm
   refine wS_calls (d := 149) (f := 32) (vs := [.slice A1 (y1).length cap1, .agg #[.int .i64 (x24.1), .int .i64 (x24.2)]]) (by kernel_rfl) ent32 (c_slices_Index_impl_Point_impl_Point hy5 (F72.sl encII_ok)) ?_
   rintro _ w35 ⟨rfl, hc25⟩
   replace F71 := F71.chg hc25 Dj.nil
   replace F72 := F72.chg hc25 Dj.nil
   replace F73 := F73.chg hc25 Dj.nil
   replace F74 := F74.chg hc25 Dj.nil
   replace hB := hB.inS hc25 inNil
   have hSz := hS
   replace hS := hS.inS hc25 inNil
   replace hZ := Nat.le_trans hZ hc25.size
   refine ⟨.int .i64 (y5), rfl, ?_⟩
   refine wS_end (by kernel_rfl) ?_
   refine eX_KH hS ?_
   refine wH_done (by kernel_rfl) ?_
   refine eX_tail ?_
   obtain ⟨x25, hx25, hm⟩ := bindE hm
   refine wS_idx (d := 150) (T := 32) (A := A7) (n := (x23).length) (cap := cap7) (kd := .i64) (m := y5) (by kernel_rfl) sl32 (F74.is hx25) ?_
   refine wS_load1 (d := 151) (T := 2) (ad := (elA A7 1 (y5) 0)) (v := .int .i64 (x25)) (by kernel_rfl) vt2 (Sl.cell F74 hx25 0 (by rfl)) ?_
   refine wS_pure 1 [(2, .int .i64 (x25))] (by kernel_rfl) ?_
   refine wS_end (by rfl) ?_
   refine eX_then ?_
   refine cW_ret ?_
   have hq : (some x25 : Option ((Int))) = some _ := hm
   replace hq := someE hq
   subst hq
   refine eX_ret (vs := [.int .i64 (x25)]) [.tmp 2] (by rfl) ⟨by (show lkE _ _ _ = _); kernel_rfl, trivial⟩ ?_
   exact ⟨rfl, hB⟩

set_option maxRecDepth 100000 in
/-- impl.SteinerLength -/
theorem c_impl_SteinerLength {w0 : World} {l0 : List (Int × Int)} {A0 : Option Addr} {cap0 : Nat} {fp0 : List Nat} {r : (Int) × (Bool)} (hm : m_impl_SteinerLength l0 = some r) (F0 : Sl 2 encII w0 fp0 A0 l0) :
  Calls Try.prog 7 #[.slice A0 (l0).length cap0] w0 fun e w' => e = .returned (.tuple #[.int .i64 (r.1), .bool (r.2)]) ∧ Chg [] w0 w' := by
 have L0 := F0.low
 have hB : Chg [] w0 w0 := Chg.refl _ _
 have hZ := Nat.le_refl w0.heap.size
 unfold m_impl_SteinerLength at hm
 refine enterE (N := 9) Try.func7 (by rfl) Try.ntmps7 (by simp) [(0, .slice A0 (l0).length cap0)] (by rfl) (by kernel_rfl) (fun a => ?_)
 refine cW_seq ?_
 refine cW_region ?_
 refine wS_pure 2 [(3, .bool (false)), (2, .int .i64 (0))] (by kernel_rfl) ?_
 refine wS_end (by rfl) ?_
 refine eX_then ?_
 refine cW_seq ?_
 refine cW_seq ?_
 refine cW_region ?_
 refine wS_pure 1 [(4, .slice A0 (l0).length cap0)] (by kernel_rfl) ?_
 obtain ⟨y1, hy1, hm⟩ := bindE hm
 refine wS_calls (d := 5) (f := 17) (vs := [.slice A0 (l0).length cap0, .int .i64 (7)]) (by kernel_rfl) ent17 (c_impl_pinsOk hy1 F0) ?_
 rintro _ w1 ⟨rfl, hc1⟩
 replace F0 := F0.chg hc1 Dj.nil
 replace hB := hB.inS hc1 inNil
 replace hZ := Nat.le_trans hZ hc1.size
 refine ⟨.bool (y1), rfl, ?_⟩
 refine wS_pure 1 [(6, .bool (!y1))] (by kernel_rfl) ?_
 refine wS_end (by rfl) ?_
 refine eX_then ?_
 refine cW_cond (t := !y1) (by kernel_rfl) (fun hb1 => ?_) (fun hb1 => ?_)
 ·have hm := condT hb1 hm
  refine cW_seq ?_
  refine cW_region ?_
  refine wS_pure 2 [(3, .bool (false)), (2, .int .i64 (0))] (by kernel_rfl) ?_
  refine wS_end (by rfl) ?_
  refine eX_then ?_
  refine cW_ret ?_
  refine eX_then_ret ?_
  have hq : (some ((0, false)) : Option ((Int) × (Bool))) = some _ := hm
  replace hq := someE hq
  subst hq
  refine eX_ret (vs := [.int .i64 (0), .bool (false)]) [.tmp 2, .tmp 3] (by rfl) ⟨by (show lkE _ _ _ = _); kernel_rfl, ⟨by (show lkE _ _ _ = _); kernel_rfl, trivial⟩⟩ ?_
  exact ⟨rfl, hB⟩
 ·have hm := condF hb1 hm
  refine cW_skip ?_
  refine eX_then ?_
  refine cW_seq ?_
  refine cW_region ?_
  refine wS_pure 1 [(7, .slice A0 (l0).length cap0)] (by kernel_rfl) ?_
  obtain ⟨y2, hy2, hm⟩ := bindE hm
  refine wS_calls (d := 8) (f := 18) (vs := [.slice A0 (l0).length cap0]) (by kernel_rfl) ent18 (c_impl_steiner hy2 F0) ?_
  rintro _ w2 ⟨rfl, hc2⟩
  replace F0 := F0.chg hc2 Dj.nil
  replace hB := hB.inS hc2 inNil
  replace hZ := Nat.le_trans hZ hc2.size
  refine ⟨.int .i64 (y2), rfl, ?_⟩
  refine wS_pure 2 [(3, .bool (true)), (2, .int .i64 (y2))] (by kernel_rfl) ?_
  refine wS_end (by rfl) ?_
  refine eX_then ?_
  refine cW_ret ?_
  have hq : (some ((y2, true)) : Option ((Int) × (Bool))) = some _ := hm
  replace hq := someE hq
  subst hq
  refine eX_ret (vs := [.int .i64 (y2), .bool (true)]) [.tmp 2, .tmp 3] (by rfl) ⟨by (show lkE _ _ _ = _); kernel_rfl, ⟨by (show lkE _ _ _ = _); kernel_rfl, trivial⟩⟩ ?_
  exact ⟨rfl, hB⟩

set_option maxRecDepth 100000 in
/-- laws.b10Abs -/
theorem c_laws_b10Abs {w0 : World} {p0 : Int} {r : (Int)} (hm : m_laws_b10Abs p0 = some r)  :
  Calls Try.prog 19 #[.int .i64 (p0)] w0 fun e w' => e = .returned (.int .i64 (r)) ∧ Chg [] w0 w' := by
 have hB : Chg [] w0 w0 := Chg.refl _ _
 have hZ := Nat.le_refl w0.heap.size
 unfold m_laws_b10Abs at hm
 refine enterE (N := 8) Try.func19 (by rfl) Try.ntmps19 (by simp) [(0, .int .i64 (p0))] (by rfl) (by kernel_rfl) (fun a => ?_)
 refine cW_seq ?_
 refine cW_region ?_
 refine wS_pure 1 [(2, .int .i64 (0))] (by kernel_rfl) ?_
 refine wS_end (by rfl) ?_
 refine eX_then ?_
 refine cW_seq ?_
 refine cW_seq ?_
 refine cW_region ?_
 refine wS_pure 2 [(4, .bool (decide (p0 < 0))), (3, .int .i64 (p0))] (by kernel_rfl) ?_
 refine wS_end (by rfl) ?_
 refine eX_then ?_
 refine cW_cond (t := decide (p0 < 0)) (by kernel_rfl) (fun hb1 => ?_) (fun hb1 => ?_)
 ·have hm := condT hb1 hm
  refine cW_seq ?_
  refine cW_region ?_
  refine wS_pure 3 [(2, .int .i64 (wr (0 - p0))), (6, .int .i64 (wr (0 - p0))), (5, .int .i64 (p0))] (by kernel_rfl) ?_
  refine wS_end (by rfl) ?_
  refine eX_then ?_
  refine cW_ret ?_
  refine eX_then_ret ?_
  have hq : (some (wr (0 - p0)) : Option ((Int))) = some _ := hm
  replace hq := someE hq
  subst hq
  refine eX_ret (vs := [.int .i64 (wr (0 - p0))]) [.tmp 2] (by rfl) ⟨by (show lkE _ _ _ = _); kernel_rfl, trivial⟩ ?_
  exact ⟨rfl, hB⟩
 ·have hm := condF hb1 hm
  refine cW_skip ?_
  refine eX_then ?_
  refine cW_seq ?_
  refine cW_region ?_
  refine wS_pure 2 [(2, .int .i64 (p0)), (7, .int .i64 (p0))] (by kernel_rfl) ?_
  refine wS_end (by rfl) ?_
  refine eX_then ?_
  refine cW_ret ?_
  have hq : (some p0 : Option ((Int))) = some _ := hm
  replace hq := someE hq
  subst hq
  refine eX_ret (vs := [.int .i64 (p0)]) [.tmp 2] (by rfl) ⟨by (show lkE _ _ _ = _); kernel_rfl, trivial⟩ ?_
  exact ⟨rfl, hB⟩

set_option maxRecDepth 100000 in
/-- laws.b10Far -/
theorem c_laws_b10Far {w0 : World} {p0_0 : Int} {p0_1 : Int} {p1_0 : Int} {p1_1 : Int} {r : (Int)} (hm : m_laws_b10Far p0_0 p0_1 p1_0 p1_1 = some r)  :
  Calls Try.prog 9 #[.agg #[.int .i64 (p0_0), .int .i64 (p0_1)], .agg #[.int .i64 (p1_0), .int .i64 (p1_1)]] w0 fun e w' => e = .returned (.int .i64 (r)) ∧ Chg [] w0 w' := by
 have hB : Chg [] w0 w0 := Chg.refl _ _
 have hZ := Nat.le_refl w0.heap.size
 unfold m_laws_b10Far at hm
 refine enterE (N := 18) Try.func9 (by rfl) Try.ntmps9 (by simp) [(0, .agg #[.int .i64 (p0_0), .int .i64 (p0_1)]), (1, .agg #[.int .i64 (p1_0), .int .i64 (p1_1)])] (by rfl) (by kernel_rfl) (fun a => ?_)
 refine cW_seq ?_
 refine cW_region ?_
 refine wS_box (d := 2) (T := 35) (x := .agg #[.int .i64 (p0_0), .int .i64 (p0_1)]) (by kernel_rfl) ?_
 intro b1 w1 G1 F1 hc1
 replace F1 : Cl w1 b1 35 [.int .i64 (p0_0), .int .i64 (p0_1)] := F1
 replace hB := hB.inS hc1 inNil
 replace G1 := Nat.le_trans hZ G1
 replace hZ := Nat.le_trans hZ hc1.size
 refine wS_box (d := 3) (T := 35) (x := .agg #[.int .i64 (p1_0), .int .i64 (p1_1)]) (by kernel_rfl) ?_
 intro b2 w2 G2 F2 hc2
 replace F2 : Cl w2 b2 35 [.int .i64 (p1_0), .int .i64 (p1_1)] := F2
 have D1 : Dj [b1] [b2] := Dj.of (lt1 F1.lt) (low1 G2)
 replace F1 := F1.chg hc2 notNil
 replace hB := hB.inS hc2 inNil
 replace G2 := Nat.le_trans hZ G2
 replace hZ := Nat.le_trans hZ hc2.size
 refine wS_pure 1 [(4, .int .i64 (0))] (by kernel_rfl) ?_
 refine wS_end (by rfl) ?_
 refine eX_then ?_
 refine cW_seq ?_
 refine cW_drawnTail [] 11 (by kernel_rfl) (by kernel_rfl) (fun w3 hc3 => ?_)
 replace F1 := F1.chg hc3 notNil
 replace F2 := F2.chg hc3 notNil
 replace hB := hB.inS hc3 inNil
 replace hZ := Nat.le_trans hZ hc3.size
 have hS := Chg.refl [] w3
 have Z1 := F1
 have Z2 := F2
 refine wH_take [0] [0] [(5, .pointer (some ⟨b1, 0, none⟩))] (by kernel_rfl) (qT (qT qZ)) (by kernel_rfl) ?_
 refine wH_load1 (i := 1) (d := 6) (T := 2) (ad := ⟨b1, 0, none⟩) (v := .int .i64 (p0_0)) (by kernel_rfl) (qT (qT qZ)) (by kernel_rfl) (by kernel_rfl) vt2 (fun W hW => (Z1.chg hW notNil).cell 0) ?_
 refine wH_take [2] [2, 1, 0] [(7, .pointer (some ⟨b2, 0, none⟩))] (by kernel_rfl) (qT (qT qZ)) (by kernel_rfl) ?_
 refine wH_load1 (i := 3) (d := 8) (T := 2) (ad := ⟨b2, 0, none⟩) (v := .int .i64 (p1_0)) (by kernel_rfl) (qT (qT qZ)) (by kernel_rfl) (by kernel_rfl) vt2 (fun W hW => (Z2.chg hW notNil).cell 0) ?_
 refine wH_take [4, 6] [6, 4, 3, 2, 1, 0] [(11, .pointer (some ⟨b1, 1, none⟩)), (9, .int .i64 (wr (p0_0 - p1_0)))] (by kernel_rfl) (qT (qT qZ)) (by kernel_rfl) ?_
 refine wH_load1 (i := 7) (d := 12) (T := 2) (ad := ⟨b1, 1, none⟩) (v := .int .i64 (p0_1)) (by kernel_rfl) (qT (qT qZ)) (by kernel_rfl) (by kernel_rfl) vt2 (fun W hW => (Z1.chg hW notNil).cell 1) ?_
 refine wH_take [8] [8, 7, 6, 4, 3, 2, 1, 0] [(13, .pointer (some ⟨b2, 1, none⟩))] (by kernel_rfl) (qT (qT qZ)) (by kernel_rfl) ?_
 refine wH_load1 (i := 9) (d := 14) (T := 2) (ad := ⟨b2, 1, none⟩) (v := .int .i64 (p1_1)) (by kernel_rfl) (qT (qT qZ)) (by kernel_rfl) (by kernel_rfl) vt2 (fun W hW => (Z2.chg hW notNil).cell 1) ?_
 refine wH_take [10] [10, 9, 8, 7, 6, 4, 3, 2, 1, 0] [(15, .int .i64 (wr (p0_1 - p1_1)))] (by kernel_rfl) (qT (qT qZ)) (by kernel_rfl) ?_
 refine wH_all [5] (by rfl) (by kernel_rfl) (by simp) ⟨⟨by kernel_rfl, ?_⟩, trivial⟩
 obtain ⟨y1, hy1, hm⟩ := bindE hm
 refine wS_calls (d := 10) (f := 19) (vs := [.int .i64 (wr (p0_0 - p1_0))]) (by kernel_rfl) ent19 (c_laws_b10Abs hy1) ?_
 rintro _ w4 ⟨rfl, hc4⟩
 replace F1 := F1.chg hc4 notNil
 replace F2 := F2.chg hc4 notNil
 replace hB := hB.inS hc4 inNil
 have hSz := hS
 replace hS := hS.inS hc4 inNil
 replace hZ := Nat.le_trans hZ hc4.size
 refine ⟨.int .i64 (y1), rfl, ?_⟩
 refine wS_end (by kernel_rfl) ?_
 refine eX_KH hS ?_
 refine wH_done (by kernel_rfl) ?_
 refine eX_tail ?_
 obtain ⟨y2, hy2, hm⟩ := bindE hm
 refine wS_calls (d := 16) (f := 19) (vs := [.int .i64 (wr (p0_1 - p1_1))]) (by kernel_rfl) ent19 (c_laws_b10Abs hy2) ?_
 rintro _ w5 ⟨rfl, hc5⟩
 replace F1 := F1.chg hc5 notNil
 replace F2 := F2.chg hc5 notNil
 replace hB := hB.inS hc5 inNil
 replace hZ := Nat.le_trans hZ hc5.size
 refine ⟨.int .i64 (y2), rfl, ?_⟩
 refine wS_pure 2 [(4, .int .i64 (wr (y1 + y2))), (17, .int .i64 (wr (y1 + y2)))] (by kernel_rfl) ?_
 refine wS_end (by rfl) ?_
 refine eX_then ?_
 refine cW_ret ?_
 have hq : (some (wr (y1 + y2)) : Option ((Int))) = some _ := hm
 replace hq := someE hq
 subst hq
 refine eX_ret (vs := [.int .i64 (wr (y1 + y2))]) [.tmp 4] (by rfl) ⟨by (show lkE _ _ _ = _); kernel_rfl, trivial⟩ ?_
 exact ⟨rfl, hB⟩

set_option maxRecDepth 100000 in
/-- laws.b10At -/
theorem c_laws_b10At {w0 : World} {l0 : List (Int)} {A0 : Option Addr} {cap0 : Nat} {fp0 : List Nat} {p1 : Int} {p2 : Int} {r : (Int)} (hm : m_laws_b10At l0 p1 p2 = some r) (F0 : Sl 1 encU w0 fp0 A0 l0) :
  Calls Try.prog 10 #[.slice A0 (l0).length cap0, .int .i64 (p1), .int .i64 (p2)] w0 fun e w' => e = .returned (.int .i64 (r)) ∧ Chg [] w0 w' := by
 have L0 := F0.low
 have hB : Chg [] w0 w0 := Chg.refl _ _
 have hZ := Nat.le_refl w0.heap.size
 unfold m_laws_b10At at hm
 refine enterE (N := 25) Try.func10 (by rfl) Try.ntmps10 (by simp) [(0, .slice A0 (l0).length cap0), (1, .int .i64 (p1)), (2, .int .i64 (p2))] (by rfl) (by kernel_rfl) (fun a => ?_)
 refine cW_seq ?_
 refine cW_region ?_
 refine wS_pure 1 [(6, .int .i64 (0))] (by kernel_rfl) ?_
 refine wS_end (by rfl) ?_
 refine eX_then ?_
 refine cW_seq ?_
 refine cW_seq ?_
 refine cW_region ?_
 refine wS_pure 2 [(8, .bool (decide (p2 ≤ 1))), (7, .int .i64 (p2))] (by kernel_rfl) ?_
 refine wS_end (by rfl) ?_
 refine eX_then ?_
 refine cW_cond (t := decide (p2 ≤ 1)) (by kernel_rfl) (fun hb1 => ?_) (fun hb1 => ?_)
 ·have hm := condT hb1 hm
  refine cW_seq ?_
  refine cW_region ?_
  refine wS_pure 1 [(6, .int .i64 (0))] (by kernel_rfl) ?_
  refine wS_end (by rfl) ?_
  refine eX_then ?_
  refine cW_ret ?_
  refine eX_then_ret ?_
  have hq : (some 0 : Option ((Int))) = some _ := hm
  replace hq := someE hq
  subst hq
  refine eX_ret (vs := [.int .i64 (0)]) [.tmp 6] (by rfl) ⟨by (show lkE _ _ _ = _); kernel_rfl, trivial⟩ ?_
  exact ⟨rfl, hB⟩
 ·have hm := condF hb1 hm
  refine cW_skip ?_
  refine eX_then ?_
  refine cW_seq ?_
  refine cW_seq ?_
  refine cW_region ?_
  refine wS_pure 4 [(12, .bool (decide (p1 < (((l0).length : Int))))), (11, .int .i64 (((l0).length : Int))), (10, .slice A0 (l0).length cap0), (9, .int .i64 (p1))] (by kernel_rfl) ?_
  refine wS_end (by rfl) ?_
  refine eX_then ?_
  refine cW_cond (t := decide (p1 < (((l0).length : Int)))) (by kernel_rfl) (fun hb2 => ?_) (fun hb2 => ?_)
  ·have hm := condT hb2 hm
   refine cW_seq ?_
   refine cW_region ?_
   refine wS_pure 2 [(14, .int .i64 (p1)), (13, .slice A0 (l0).length cap0)] (by kernel_rfl) ?_
   obtain ⟨x1, hx1, hm⟩ := bindE hm
   refine wS_idx (d := 15) (T := 22) (A := A0) (n := (l0).length) (cap := cap0) (kd := .i64) (m := p1) (by kernel_rfl) sl22 (F0.is hx1) ?_
   refine wS_load1 (d := 16) (T := 5) (ad := (elA A0 1 (p1) 0)) (v := .int .u8 (x1)) (by kernel_rfl) vt5 (Sl.cell F0 hx1 0 (by rfl)) ?_
   refine wS_pure 2 [(18, .int .i64 (p2)), (17, .int .i64 (wr x1))] (by kernel_rfl) ?_
   obtain ⟨u1, hu1, hm⟩ := bindE hm
   refine wS_rem (d := 19) (x := wr x1) (y := p2) (by kernel_rfl) (nzE hu1) ?_
   refine wS_pure 1 [(6, .int .i64 (Int.tmod (wr x1) p2))] (by kernel_rfl) ?_
   refine wS_end (by rfl) ?_
   refine eX_then ?_
   refine cW_ret ?_
   refine eX_then_ret ?_
   have hq : (some (Int.tmod (wr x1) p2) : Option ((Int))) = some _ := hm
   replace hq := someE hq
   subst hq
   refine eX_ret (vs := [.int .i64 (Int.tmod (wr x1) p2)]) [.tmp 6] (by rfl) ⟨by (show lkE _ _ _ = _); kernel_rfl, trivial⟩ ?_
   exact ⟨rfl, hB⟩
  ·have hm := condF hb2 hm
   refine cW_skip ?_
   refine eX_then ?_
   refine cW_seq ?_
   refine cW_region ?_
   refine wS_pure 4 [(23, .int .i64 (p2)), (22, .int .i64 (wr ((wr (p1 * 37)) + 11))), (21, .int .i64 (wr (p1 * 37))), (20, .int .i64 (p1))] (by kernel_rfl) ?_
   obtain ⟨u2, hu2, hm⟩ := bindE hm
   refine wS_rem (d := 24) (x := wr ((wr (p1 * 37)) + 11)) (y := p2) (by kernel_rfl) (nzE hu2) ?_
   refine wS_pure 1 [(6, .int .i64 (Int.tmod (wr ((wr (p1 * 37)) + 11)) p2))] (by kernel_rfl) ?_
   refine wS_end (by rfl) ?_
   refine eX_then ?_
   refine cW_ret ?_
   have hq : (some (Int.tmod (wr ((wr (p1 * 37)) + 11)) p2) : Option ((Int))) = some _ := hm
   replace hq := someE hq
   subst hq
   refine eX_ret (vs := [.int .i64 (Int.tmod (wr ((wr (p1 * 37)) + 11)) p2)]) [.tmp 6] (by rfl) ⟨by (show lkE _ _ _ = _); kernel_rfl, trivial⟩ ?_
   exact ⟨rfl, hB⟩

set_option maxRecDepth 100000 in
/-- laws.b10Pin -/
theorem c_laws_b10Pin {w0 : World} {l0 : List (Int)} {A0 : Option Addr} {cap0 : Nat} {fp0 : List Nat} {p1 : Int} {r : (Int × Int)} (hm : m_laws_b10Pin l0 p1 = some r) (F0 : Sl 1 encU w0 fp0 A0 l0) :
  Calls Try.prog 11 #[.slice A0 (l0).length cap0, .int .i64 (p1)] w0 fun e w' => e = .returned (.agg #[.int .i64 (r.1), .int .i64 (r.2)]) ∧ Chg [] w0 w' := by
 have L0 := F0.low
 have hB : Chg [] w0 w0 := Chg.refl _ _
 have hZ := Nat.le_refl w0.heap.size
 unfold m_laws_b10Pin at hm
 refine enterE (N := 13) Try.func11 (by rfl) Try.ntmps11 (by simp) [(0, .slice A0 (l0).length cap0), (1, .int .i64 (p1))] (by rfl) (by kernel_rfl) (fun a => ?_)
 refine cW_seq ?_
 refine cW_region ?_
 refine wS_alloc (d := 4) (T := 35) (z := .agg #[.int .i64 (0), .int .i64 (0)]) (by kernel_rfl) (by kernel_rfl) ?_
 intro b1 w1 G1 F1 hc1
 replace F1 : Cl w1 b1 35 [.int .i64 (0), .int .i64 (0)] := F1
 replace F0 := F0.chg hc1 Dj.nil
 replace hB := hB.inS hc1 inNil
 replace G1 := Nat.le_trans hZ G1
 replace hZ := Nat.le_trans hZ hc1.size
 refine wS_end (by rfl) ?_
 refine eX_then ?_
 refine cW_seq ?_
 refine cW_region ?_
 refine wS_pure 2 [(6, .int .i64 (p1)), (5, .slice A0 (l0).length cap0)] (by kernel_rfl) ?_
 obtain ⟨y1, hy1, hm⟩ := bindE hm
 refine wS_calls (d := 7) (f := 10) (vs := [.slice A0 (l0).length cap0, .int .i64 (p1), .int .i64 (10)]) (by kernel_rfl) ent10 (c_laws_b10At hy1 F0) ?_
 rintro _ w2 ⟨rfl, hc2⟩
 replace F0 := F0.chg hc2 Dj.nil
 replace F1 := F1.chg hc2 notNil
 replace hB := hB.inS hc2 inNil
 replace hZ := Nat.le_trans hZ hc2.size
 refine ⟨.int .i64 (y1), rfl, ?_⟩
 refine wS_pure 3 [(10, .int .i64 (wr (p1 + 1))), (9, .int .i64 (p1)), (8, .slice A0 (l0).length cap0)] (by kernel_rfl) ?_
 obtain ⟨y2, hy2, hm⟩ := bindE hm
 refine wS_calls (d := 11) (f := 10) (vs := [.slice A0 (l0).length cap0, .int .i64 (wr (p1 + 1)), .int .i64 (10)]) (by kernel_rfl) ent10 (c_laws_b10At hy2 F0) ?_
 rintro _ w3 ⟨rfl, hc3⟩
 replace F0 := F0.chg hc3 Dj.nil
 replace F1 := F1.chg hc3 notNil
 replace hB := hB.inS hc3 inNil
 replace hZ := Nat.le_trans hZ hc3.size
 refine ⟨.int .i64 (y2), rfl, ?_⟩
 refine wS_pure 1 [(12, .agg #[.int .i64 (y1), .int .i64 (y2)])] (by kernel_rfl) ?_
 refine wS_store (T := 35) (g := b1) (o := 0) (ad := ⟨b1, 0, none⟩) (v := .agg #[.int .i64 (y1), .int .i64 (y2)]) (vs := [.int .i64 (y1), .int .i64 (y2)]) (by kernel_rfl) (by rfl) sz35 (by rfl) (by rfl) F1 (by simp only [List.length_cons, List.length_nil]; omega) ?_
 intro w4 F2 hc4
 replace F0 := F0.chg hc4 (Dj.of L0 (low1 G1))
 replace hB := hB.inS hc4 (inLow (low1 G1))
 replace hZ := Nat.le_trans hZ hc4.size
 replace F2 : Cl w4 b1 35 [.int .i64 (y1), .int .i64 (y2)] := F2
 clear F1
 refine wS_end (by rfl) ?_
 refine eX_then ?_
 refine cW_ret ?_
 have hq : (some ((y1, y2)) : Option ((Int × Int))) = some _ := hm
 replace hq := someE hq
 subst hq
 refine eX_ret (vs := [.agg #[.int .i64 (y1), .int .i64 (y2)]]) [.cell 4 35] (by rfl) ⟨⟨⟨b1, 0, none⟩, by kernel_rfl, run_loadVarA (vs := [.int .i64 (y1), .int .i64 (y2)]) vt35 (fun i u hu => by exact box_cells F2 0 hu (by rfl))⟩, trivial⟩ ?_
 exact ⟨rfl, hB⟩

set_option maxRecDepth 100000 in
/-- impl.Point] -/
theorem c_slices_Contains_impl_Point_impl_Point {w0 : World} {l0 : List (Int × Int)} {A0 : Option Addr} {cap0 : Nat} {fp0 : List Nat} {p1_0 : Int} {p1_1 : Int} {r : (Bool)} (hm : m_slices_Contains_impl_Point_impl_Point l0 p1_0 p1_1 = some r) (F0 : Sl 2 encII w0 fp0 A0 l0) :
  Calls Try.prog 34 #[.slice A0 (l0).length cap0, .agg #[.int .i64 (p1_0), .int .i64 (p1_1)]] w0 fun e w' => e = .returned (.bool (r)) ∧ Chg [] w0 w' := by
 have L0 := F0.low
 have hB : Chg [] w0 w0 := Chg.refl _ _
 have hZ := Nat.le_refl w0.heap.size
 unfold m_slices_Contains_impl_Point_impl_Point at hm
 refine enterE (N := 9) Try.func34 (by rfl) Try.ntmps34 (by simp) [(0, .slice A0 (l0).length cap0), (1, .agg #[.int .i64 (p1_0), .int .i64 (p1_1)])] (by rfl) (by kernel_rfl) (fun a => ?_)
 refine cW_seq ?_
 refine cW_region ?_
 refine wS_box (d := 3) (T := 35) (x := .agg #[.int .i64 (p1_0), .int .i64 (p1_1)]) (by kernel_rfl) ?_
 intro b1 w1 G1 F1 hc1
 replace F1 : Cl w1 b1 35 [.int .i64 (p1_0), .int .i64 (p1_1)] := F1
 replace F0 := F0.chg hc1 Dj.nil
 replace hB := hB.inS hc1 inNil
 replace G1 := Nat.le_trans hZ G1
 replace hZ := Nat.le_trans hZ hc1.size
 refine wS_pure 1 [(4, .bool (false))] (by kernel_rfl) ?_
 refine wS_end (by rfl) ?_
 refine eX_then ?_
 refine cW_seq ?_
 refine cW_region ?_
 refine wS_pure 1 [(5, .slice A0 (l0).length cap0)] (by kernel_rfl) ?_
 refine wS_loadA (d := 6) (T := 35) (ad := ⟨b1, 0, none⟩) (vs := [.int .i64 (p1_0), .int .i64 (p1_1)]) (by kernel_rfl) vt35 (fun i u hu => box_cells F1 0 hu (by rfl)) ?_
 obtain ⟨y1, hy1, hm⟩ := bindE hm
 refine wS_calls (d := 7) (f := 32) (vs := [.slice A0 (l0).length cap0, .agg #[.int .i64 (p1_0), .int .i64 (p1_1)]]) (by kernel_rfl) ent32 (c_slices_Index_impl_Point_impl_Point hy1 F0) ?_
 rintro _ w2 ⟨rfl, hc2⟩
 replace F0 := F0.chg hc2 Dj.nil
 replace F1 := F1.chg hc2 notNil
 replace hB := hB.inS hc2 inNil
 replace hZ := Nat.le_trans hZ hc2.size
 refine ⟨.int .i64 (y1), rfl, ?_⟩
 refine wS_pure 2 [(4, .bool (decide (y1 ≥ 0))), (8, .bool (decide (y1 ≥ 0)))] (by kernel_rfl) ?_
 refine wS_end (by rfl) ?_
 refine eX_then ?_
 refine cW_ret ?_
 have hq : (some (decide (y1 ≥ 0)) : Option ((Bool))) = some _ := hm
 replace hq := someE hq
 subst hq
 refine eX_ret (vs := [.bool (decide (y1 ≥ 0))]) [.tmp 4] (by rfl) ⟨by (show lkE _ _ _ = _); kernel_rfl, trivial⟩ ?_
 exact ⟨rfl, hB⟩

set_option maxRecDepth 100000 in
/-- impl.gain -/
theorem c_impl_gain {w0 : World} {l0 : List (Int × Int)} {A0 : Option Addr} {cap0 : Nat} {fp0 : List Nat} {p1_0 : Int} {p1_1 : Int} {r : (Int)} (hm : m_impl_gain l0 p1_0 p1_1 = some r) (F0 : Sl 2 encII w0 fp0 A0 l0) (K0 : (l0).length ≤ cap0) :
  Calls Try.prog 21 #[.slice A0 (l0).length cap0, .agg #[.int .i64 (p1_0), .int .i64 (p1_1)]] w0 fun e w' => e = .returned (.int .i64 (r)) ∧ Chg [] w0 w' := by
 have L0 := F0.low
 have hB : Chg [] w0 w0 := Chg.refl _ _
 have hZ := Nat.le_refl w0.heap.size
 unfold m_impl_gain at hm
 refine enterE (N := 29) Try.func21 (by rfl) Try.ntmps21 (by simp) [(0, .slice A0 (l0).length cap0), (1, .agg #[.int .i64 (p1_0), .int .i64 (p1_1)])] (by rfl) (by kernel_rfl) (fun a => ?_)
 refine cW_seq ?_
 refine cW_region ?_
 refine wS_box (d := 3) (T := 35) (x := .agg #[.int .i64 (p1_0), .int .i64 (p1_1)]) (by kernel_rfl) ?_
 intro b1 w1 G1 F1 hc1
 replace F1 : Cl w1 b1 35 [.int .i64 (p1_0), .int .i64 (p1_1)] := F1
 replace F0 := F0.chg hc1 Dj.nil
 replace hB := hB.inS hc1 inNil
 replace G1 := Nat.le_trans hZ G1
 replace hZ := Nat.le_trans hZ hc1.size
 refine wS_pure 1 [(4, .int .i64 (0))] (by kernel_rfl) ?_
 refine wS_end (by rfl) ?_
 refine eX_then ?_
 refine cW_seq ?_
 refine cW_seq ?_
 refine cW_region ?_
 refine wS_pure 1 [(9, .slice A0 (l0).length cap0)] (by kernel_rfl) ?_
 refine wS_loadA (d := 10) (T := 35) (ad := ⟨b1, 0, none⟩) (vs := [.int .i64 (p1_0), .int .i64 (p1_1)]) (by kernel_rfl) vt35 (fun i u hu => box_cells F1 0 hu (by rfl)) ?_
 obtain ⟨y1, hy1, hm⟩ := bindE hm
 refine wS_calls (d := 11) (f := 34) (vs := [.slice A0 (l0).length cap0, .agg #[.int .i64 (p1_0), .int .i64 (p1_1)]]) (by kernel_rfl) ent34 (c_slices_Contains_impl_Point_impl_Point hy1 F0) ?_
 rintro _ w2 ⟨rfl, hc2⟩
 replace F0 := F0.chg hc2 Dj.nil
 replace F1 := F1.chg hc2 notNil
 replace hB := hB.inS hc2 inNil
 replace hZ := Nat.le_trans hZ hc2.size
 refine ⟨.bool (y1), rfl, ?_⟩
 refine wS_end (by rfl) ?_
 refine eX_then ?_
 refine cW_cond (t := y1) (by kernel_rfl) (fun hb1 => ?_) (fun hb1 => ?_)
 ·have hm := condT hb1 hm
  refine cW_seq ?_
  refine cW_region ?_
  refine wS_pure 1 [(4, .int .i64 (0))] (by kernel_rfl) ?_
  refine wS_end (by rfl) ?_
  refine eX_then ?_
  refine cW_ret ?_
  refine eX_then_ret ?_
  have hq : (some 0 : Option ((Int))) = some _ := hm
  replace hq := someE hq
  subst hq
  refine eX_ret (vs := [.int .i64 (0)]) [.tmp 4] (by rfl) ⟨by (show lkE _ _ _ = _); kernel_rfl, trivial⟩ ?_
  exact ⟨rfl, hB⟩
 ·have hm := condF hb1 hm
  refine cW_skip ?_
  refine eX_then ?_
  refine cW_seq ?_
  refine cW_region ?_
  refine wS_pure 1 [(13, .slice A0 (l0).length cap0)] (by kernel_rfl) ?_
  obtain ⟨y2, hy2, hm⟩ := bindE hm
  refine wS_calls (d := 14) (f := 16) (vs := [.slice A0 (l0).length cap0]) (by kernel_rfl) ent16 (c_impl_spanning hy2 F0) ?_
  rintro _ w3 ⟨A1, cap1, fp1, fr1, rfl, F2, G2, hc3⟩
  have D1 : Dj [b1] (fp1 ++ fr1) := Dj.of (lt1 F1.lt) G2
  replace F0 := F0.chg hc3 Dj.nil
  replace F1 := F1.chg hc3 notNil
  replace hB := hB.inS hc3 inNil
  replace G2 := low_le hZ G2
  replace hZ := Nat.le_trans hZ hc3.size
  refine ⟨.tuple #[.slice A1 (y2.1).length cap1, .int .i64 (y2.2)], rfl, ?_⟩
  refine wS_pure 5 [(6, .int .i64 (y2.2)), (5, .slice A1 (y2.1).length cap1), (16, .int .i64 (y2.2)), (15, .slice A1 (y2.1).length cap1), (12, .tuple #[.slice A1 (y2.1).length cap1, .int .i64 (y2.2)])] (by kernel_rfl) ?_
  refine wS_end (by rfl) ?_
  refine eX_then ?_
  refine cW_seq ?_
  obtain ⟨s1, hs1, hm⟩ := bindE hm
  refine cW_cut (fun a' w' => ∃ x1 : Int, x1 = s1 ∧ Fr 29 [(6, .int .i64 (y2.2)), (8, .int .i64 (x1))] a' ∧ Chg [] w0 w' ∧ w0.heap.size ≤ w'.heap.size) ?_ ?_
  ·have hm := hs1
   refine cW_drawnTail [] 10 (by kernel_rfl) (by kernel_rfl) (fun w4 hc4 => ?_)
   replace F0 := F0.chg hc4 Dj.nil
   replace F1 := F1.chg hc4 notNil
   replace F2 := F2.chg hc4 Dj.nil
   replace hB := hB.inS hc4 inNil
   replace hZ := Nat.le_trans hZ hc4.size
   have hS := Chg.refl [] w4
   have Z1 := F0
   have Z2 := F1
   have Z3 := F2
   refine wH_take [0] [0] [(18, .slice A0 (l0).length cap0)] (by kernel_rfl) (qT (qT (qT qZ))) (by kernel_rfl) ?_
   refine wH_loadA (i := 2) (d := 20) (T := 35) (ad := ⟨b1, 0, none⟩) (vs := [.int .i64 (p1_0), .int .i64 (p1_1)]) (by kernel_rfl) (qT (qT (qT qZ))) (by kernel_rfl) (by kernel_rfl) vt35 (fun W hW i u hu => box_cells (Z2.chg hW notNil) 0 hu (by rfl)) ?_
   refine wH_all [1, 3] (by rfl) (by kernel_rfl) (by simp) ⟨⟨by kernel_rfl, ?_⟩, ⟨by kernel_rfl, ?_⟩, trivial⟩
   ·skip
    refine wS_calls (d := 19) (f := 35) (vs := [.slice A0 (l0).length cap0]) (by kernel_rfl) ent35 (c_slices_Clip_impl_Point_impl_Point (w0 := w4) (A0 := A0) K0) ?_
    rintro _ w5 ⟨rfl, hc5⟩
    replace F0 := F0.chg hc5 Dj.nil
    replace F1 := F1.chg hc5 notNil
    replace F2 := F2.chg hc5 Dj.nil
    replace hB := hB.inS hc5 inNil
    have hSz := hS
    replace hS := hS.inS hc5 inNil
    replace hZ := Nat.le_trans hZ hc5.size
    have F3 := F0
    refine ⟨.slice A0 (l0).length (l0).length, rfl, ?_⟩
    refine wS_end (by kernel_rfl) ?_
    refine eX_KH hS ?_
    refine wH_all [3] (by rfl) (by kernel_rfl) (by simp) ⟨⟨by kernel_rfl, ?_⟩, trivial⟩
    refine wS_bs (enc := encII) ([(p1_0, p1_1)] : List (Int × Int)) [.int .i64 (p1_0), .int .i64 (p1_1)] (d := 21) (t := 24) (T := 35) (n := 1) (ps := [(0, .agg #[.int .i64 (p1_0), .int .i64 (p1_1)])]) (by kernel_rfl) el24 encII_ok (by rfl) (by omega) (by omega) (by kernel_rfl) (by rfl) ?_
    intro b2 w6 G3 F4 hc6
    have D2 : Dj [b1] [b2] := Dj.of (lt1 F1.lt) (low1 G3)
    have D3 : Dj (fp1 ++ fr1) [b2] := Dj.of F2.low (low1 G3)
    replace F0 := F0.chg hc6 Dj.nil
    replace F1 := F1.chg hc6 notNil
    replace F2 := F2.chg hc6 Dj.nil
    replace F3 := F3.chg hc6 Dj.nil
    replace hB := hB.inS hc6 inNil
    have hSz := hS
    replace hS := hS.inS hc6 inNil
    have Gz1 := low1 (Nat.le_trans hSz.size G3)
    replace G3 := Nat.le_trans hZ G3
    replace G3 := low1 G3
    replace hZ := Nat.le_trans hZ hc6.size
    refine wS_end (by kernel_rfl) ?_
    refine eX_KH hS ?_
    refine wH_all [4] (by rfl) (by kernel_rfl) (by simp) ⟨⟨by kernel_rfl, ?_⟩, trivial⟩
    obtain ⟨_, hk1, hm⟩ := bindE hm
    replace hk1 := apE hk1
    refine wS_appendFull (enc := encII) (l := (l0 : List (Int × Int))) (l2 := (([(p1_0, p1_1)] : List (Int × Int)) : List (Int × Int))) (d := 22) (t := 24) (T := 35) (A := A0) (A2 := (some ⟨b2, 0, none⟩)) (cap := (l0).length) (cap2 := 1) (by kernel_rfl) el24 encII_ok F3 rfl (F4.sl encII_ok) (by simp) hk1 ?_
    intro w7 fp2 A3 cap3 F5 hc7 G4
    have D4 : Dj [b1] fp2 := Dj.of (lt1 F1.lt) G4
    have D5 : Dj (fp1 ++ fr1) fp2 := Dj.of F2.low G4
    have D6 : Dj [b2] fp2 := Dj.of F4.low G4
    replace F0 := F0.chg hc7 Dj.nil
    replace F1 := F1.chg hc7 notNil
    replace F2 := F2.chg hc7 Dj.nil
    replace F3 := F3.chg hc7 Dj.nil
    replace F4 := F4.chg hc7 Dj.nil
    replace hB := hB.inS hc7 inNil
    have hSz := hS
    replace hS := hS.inS hc7 inNil
    replace G4 := low_le hZ G4
    replace hZ := Nat.le_trans hZ hc7.size
    refine wS_end (by kernel_rfl) ?_
    refine eX_KH hS ?_
    refine wH_all [5] (by rfl) (by kernel_rfl) (by simp) ⟨⟨by kernel_rfl, ?_⟩, trivial⟩
    obtain ⟨y3, hy3, hm⟩ := bindE hm
    refine wS_calls (d := 23) (f := 16) (vs := [.slice A3 (l0 ++ (([(p1_0, p1_1)] : List (Int × Int)))).length cap3]) (by kernel_rfl) ent16 (c_impl_spanning hy3 (F5.sl encII_ok)) ?_
    rintro _ w8 ⟨A4, cap4, fp3, fr2, rfl, F6, G5, hc8⟩
    have D7 : Dj [b1] (fp3 ++ fr2) := Dj.of (lt1 F1.lt) G5
    have D8 : Dj (fp1 ++ fr1) (fp3 ++ fr2) := Dj.of F2.low G5
    have D9 : Dj [b2] (fp3 ++ fr2) := Dj.of F4.low G5
    have D10 : Dj fp2 (fp3 ++ fr2) := Dj.of F5.low G5
    replace F0 := F0.chg hc8 Dj.nil
    replace F1 := F1.chg hc8 notNil
    replace F2 := F2.chg hc8 Dj.nil
    replace F3 := F3.chg hc8 Dj.nil
    replace F4 := F4.chg hc8 Dj.nil
    replace F5 := F5.chg hc8 Dj.nil
    replace hB := hB.inS hc8 inNil
    have hSz := hS
    replace hS := hS.inS hc8 inNil
    replace G5 := low_le hZ G5
    replace hZ := Nat.le_trans hZ hc8.size
    refine ⟨.tuple #[.slice A4 (y3.1).length cap4, .int .i64 (y3.2)], rfl, ?_⟩
    refine wS_end (by kernel_rfl) ?_
    refine eX_KH hS ?_
    refine wH_take [6, 7, 8, 9] [9, 8, 7, 6, 5, 4, 3, 1, 2, 0] [(7, .slice A4 (y3.1).length cap4), (25, .int .i64 (y3.2)), (24, .slice A4 (y3.1).length cap4), (17, .tuple #[.slice A4 (y3.1).length cap4, .int .i64 (y3.2)])] (by kernel_rfl) (qT (qT (qT qZ))) (by kernel_rfl) ?_
    refine wH_done (by kernel_rfl) ?_
    refine eX_tail ?_
    refine wS_pure 1 [(8, .int .i64 (y3.2))] (by kernel_rfl) ?_
    refine wS_end (by rfl) ?_
    have hq : (some y3.2 : Option (Int)) = some _ := hm
    replace hq := someE hq
    subst hq
    exact eX_J (fun hst => ⟨y3.2, rfl, Fr.of hst (by kernel_rfl), hB, hZ⟩)
   ·skip
    refine wS_bs (enc := encII) ([(p1_0, p1_1)] : List (Int × Int)) [.int .i64 (p1_0), .int .i64 (p1_1)] (d := 21) (t := 24) (T := 35) (n := 1) (ps := [(0, .agg #[.int .i64 (p1_0), .int .i64 (p1_1)])]) (by kernel_rfl) el24 encII_ok (by rfl) (by omega) (by omega) (by kernel_rfl) (by rfl) ?_
    intro b3 w9 G6 F7 hc9
    have D11 : Dj [b1] [b3] := Dj.of (lt1 F1.lt) (low1 G6)
    have D12 : Dj (fp1 ++ fr1) [b3] := Dj.of F2.low (low1 G6)
    replace F0 := F0.chg hc9 Dj.nil
    replace F1 := F1.chg hc9 notNil
    replace F2 := F2.chg hc9 Dj.nil
    replace hB := hB.inS hc9 inNil
    have hSz := hS
    replace hS := hS.inS hc9 inNil
    have Gz2 := low1 (Nat.le_trans hSz.size G6)
    replace G6 := Nat.le_trans hZ G6
    replace G6 := low1 G6
    replace hZ := Nat.le_trans hZ hc9.size
    refine wS_end (by kernel_rfl) ?_
    refine eX_KH hS ?_
    refine wH_all [1] (by rfl) (by kernel_rfl) (by simp) ⟨⟨by kernel_rfl, ?_⟩, trivial⟩
    refine wS_calls (d := 19) (f := 35) (vs := [.slice A0 (l0).length cap0]) (by kernel_rfl) ent35 (c_slices_Clip_impl_Point_impl_Point (w0 := w9) (A0 := A0) K0) ?_
    rintro _ w10 ⟨rfl, hc10⟩
    replace F0 := F0.chg hc10 Dj.nil
    replace F1 := F1.chg hc10 notNil
    replace F2 := F2.chg hc10 Dj.nil
    replace F7 := F7.chg hc10 Dj.nil
    replace hB := hB.inS hc10 inNil
    have hSz := hS
    replace hS := hS.inS hc10 inNil
    replace hZ := Nat.le_trans hZ hc10.size
    have F8 := F0
    refine ⟨.slice A0 (l0).length (l0).length, rfl, ?_⟩
    refine wS_end (by kernel_rfl) ?_
    refine eX_KH hS ?_
    refine wH_all [4] (by rfl) (by kernel_rfl) (by simp) ⟨⟨by kernel_rfl, ?_⟩, trivial⟩
    obtain ⟨_, hk2, hm⟩ := bindE hm
    replace hk2 := apE hk2
    refine wS_appendFull (enc := encII) (l := (l0 : List (Int × Int))) (l2 := (([(p1_0, p1_1)] : List (Int × Int)) : List (Int × Int))) (d := 22) (t := 24) (T := 35) (A := A0) (A2 := (some ⟨b3, 0, none⟩)) (cap := (l0).length) (cap2 := 1) (by kernel_rfl) el24 encII_ok F8 rfl (F7.sl encII_ok) (by simp) hk2 ?_
    intro w11 fp4 A5 cap5 F9 hc11 G7
    have D13 : Dj [b1] fp4 := Dj.of (lt1 F1.lt) G7
    have D14 : Dj (fp1 ++ fr1) fp4 := Dj.of F2.low G7
    have D15 : Dj [b3] fp4 := Dj.of F7.low G7
    replace F0 := F0.chg hc11 Dj.nil
    replace F1 := F1.chg hc11 notNil
    replace F2 := F2.chg hc11 Dj.nil
    replace F7 := F7.chg hc11 Dj.nil
    replace F8 := F8.chg hc11 Dj.nil
    replace hB := hB.inS hc11 inNil
    have hSz := hS
    replace hS := hS.inS hc11 inNil
    replace G7 := low_le hZ G7
    replace hZ := Nat.le_trans hZ hc11.size
    refine wS_end (by kernel_rfl) ?_
    refine eX_KH hS ?_
    refine wH_all [5] (by rfl) (by kernel_rfl) (by simp) ⟨⟨by kernel_rfl, ?_⟩, trivial⟩
    obtain ⟨y4, hy4, hm⟩ := bindE hm
    refine wS_calls (d := 23) (f := 16) (vs := [.slice A5 (l0 ++ (([(p1_0, p1_1)] : List (Int × Int)))).length cap5]) (by kernel_rfl) ent16 (c_impl_spanning hy4 (F9.sl encII_ok)) ?_
    rintro _ w12 ⟨A6, cap6, fp5, fr3, rfl, F10, G8, hc12⟩
    have D16 : Dj [b1] (fp5 ++ fr3) := Dj.of (lt1 F1.lt) G8
    have D17 : Dj (fp1 ++ fr1) (fp5 ++ fr3) := Dj.of F2.low G8
    have D18 : Dj [b3] (fp5 ++ fr3) := Dj.of F7.low G8
    have D19 : Dj fp4 (fp5 ++ fr3) := Dj.of F9.low G8
    replace F0 := F0.chg hc12 Dj.nil
    replace F1 := F1.chg hc12 notNil
    replace F2 := F2.chg hc12 Dj.nil
    replace F7 := F7.chg hc12 Dj.nil
    replace F8 := F8.chg hc12 Dj.nil
    replace F9 := F9.chg hc12 Dj.nil
    replace hB := hB.inS hc12 inNil
    have hSz := hS
    replace hS := hS.inS hc12 inNil
    replace G8 := low_le hZ G8
    replace hZ := Nat.le_trans hZ hc12.size
    refine ⟨.tuple #[.slice A6 (y4.1).length cap6, .int .i64 (y4.2)], rfl, ?_⟩
    refine wS_end (by kernel_rfl) ?_
    refine eX_KH hS ?_
    refine wH_take [6, 7, 8, 9] [9, 8, 7, 6, 5, 4, 1, 3, 2, 0] [(7, .slice A6 (y4.1).length cap6), (25, .int .i64 (y4.2)), (24, .slice A6 (y4.1).length cap6), (17, .tuple #[.slice A6 (y4.1).length cap6, .int .i64 (y4.2)])] (by kernel_rfl) (qT (qT (qT qZ))) (by kernel_rfl) ?_
    refine wH_done (by kernel_rfl) ?_
    refine eX_tail ?_
    refine wS_pure 1 [(8, .int .i64 (y4.2))] (by kernel_rfl) ?_
    refine wS_end (by rfl) ?_
    have hq : (some y4.2 : Option (Int)) = some _ := hm
    replace hq := someE hq
    subst hq
    exact eX_J (fun hst => ⟨y4.2, rfl, Fr.of hst (by kernel_rfl), hB, hZ⟩)
  ·rintro a' w13 ⟨x1, hJ, hF1, hB, hZ⟩
   subst hJ
   refine Fr.goX hF1 (by kernel_rfl) ?_
   refine eX_then ?_
   refine cW_seq ?_
   refine cW_region ?_
   refine wS_pure 4 [(4, .int .i64 (wr (y2.2 - x1))), (28, .int .i64 (wr (y2.2 - x1))), (27, .int .i64 (x1)), (26, .int .i64 (y2.2))] (by kernel_rfl) ?_
   refine wS_end (by rfl) ?_
   refine eX_then ?_
   refine cW_ret ?_
   have hq : (some (wr (y2.2 - x1)) : Option ((Int))) = some _ := hm
   replace hq := someE hq
   subst hq
   refine eX_ret (vs := [.int .i64 (wr (y2.2 - x1))]) [.tmp 4] (by rfl) ⟨by (show lkE _ _ _ = _); kernel_rfl, trivial⟩ ?_
   exact ⟨rfl, hB⟩

set_option maxRecDepth 100000 in
/-- impl.GainOf -/
theorem c_impl_GainOf {w0 : World} {l0 : List (Int × Int)} {A0 : Option Addr} {cap0 : Nat} {fp0 : List Nat} {p1_0 : Int} {p1_1 : Int} {r : (Int) × (Bool)} (hm : m_impl_GainOf l0 p1_0 p1_1 = some r) (F0 : Sl 2 encII w0 fp0 A0 l0) (K0 : (l0).length ≤ cap0) :
  Calls Try.prog 12 #[.slice A0 (l0).length cap0, .agg #[.int .i64 (p1_0), .int .i64 (p1_1)]] w0 fun e w' => e = .returned (.tuple #[.int .i64 (r.1), .bool (r.2)]) ∧ Chg [] w0 w' := by
 have L0 := F0.low
 have hB : Chg [] w0 w0 := Chg.refl _ _
 have hZ := Nat.le_refl w0.heap.size
 unfold m_impl_GainOf at hm
 refine enterE (N := 17) Try.func12 (by rfl) Try.ntmps12 (by simp) [(0, .slice A0 (l0).length cap0), (1, .agg #[.int .i64 (p1_0), .int .i64 (p1_1)])] (by rfl) (by kernel_rfl) (fun a => ?_)
 refine cW_seq ?_
 refine cW_region ?_
 refine wS_box (d := 3) (T := 35) (x := .agg #[.int .i64 (p1_0), .int .i64 (p1_1)]) (by kernel_rfl) ?_
 intro b1 w1 G1 F1 hc1
 replace F1 : Cl w1 b1 35 [.int .i64 (p1_0), .int .i64 (p1_1)] := F1
 replace F0 := F0.chg hc1 Dj.nil
 replace hB := hB.inS hc1 inNil
 replace G1 := Nat.le_trans hZ G1
 replace hZ := Nat.le_trans hZ hc1.size
 refine wS_pure 2 [(5, .bool (false)), (4, .int .i64 (0))] (by kernel_rfl) ?_
 refine wS_end (by rfl) ?_
 refine eX_then ?_
 refine cW_seq ?_
 refine cW_seq ?_
 refine cW_region ?_
 refine wS_pure 1 [(6, .slice A0 (l0).length cap0)] (by kernel_rfl) ?_
 obtain ⟨y1, hy1, hm⟩ := bindE hm
 refine wS_calls (d := 7) (f := 17) (vs := [.slice A0 (l0).length cap0, .int .i64 (19)]) (by kernel_rfl) ent17 (c_impl_pinsOk hy1 F0) ?_
 rintro _ w2 ⟨rfl, hc2⟩
 replace F0 := F0.chg hc2 Dj.nil
 replace F1 := F1.chg hc2 notNil
 replace hB := hB.inS hc2 inNil
 replace hZ := Nat.le_trans hZ hc2.size
 refine ⟨.bool (y1), rfl, ?_⟩
 refine wS_pure 2 [(9, .bool (!y1)), (8, .bool (!y1))] (by kernel_rfl) ?_
 refine wS_bool (!y1) (fun hb1 => ?_) (fun hb1 => ?_)
 ·have hm := condT hb1 hm
  rewrite [hb1]
  refine wS_pure 4 [(13, .bool (true)), (12, undef), (11, undef), (10, undef)] (by kernel_rfl) ?_
  refine wS_end (by rfl) ?_
  refine eX_then ?_
  refine cW_cond_t (by kernel_rfl) ?_
  refine cW_seq ?_
  refine cW_region ?_
  refine wS_pure 2 [(5, .bool (false)), (4, .int .i64 (0))] (by kernel_rfl) ?_
  refine wS_end (by rfl) ?_
  refine eX_then ?_
  refine cW_ret ?_
  refine eX_then_ret ?_
  have hq : (some ((0, false)) : Option ((Int) × (Bool))) = some _ := hm
  replace hq := someE hq
  subst hq
  refine eX_ret (vs := [.int .i64 (0), .bool (false)]) [.tmp 4, .tmp 5] (by rfl) ⟨by (show lkE _ _ _ = _); kernel_rfl, ⟨by (show lkE _ _ _ = _); kernel_rfl, trivial⟩⟩ ?_
  exact ⟨rfl, hB⟩
 ·have hm := condF hb1 hm
  rewrite [hb1]
  refine wS_loadA (d := 10) (T := 35) (ad := ⟨b1, 0, none⟩) (vs := [.int .i64 (p1_0), .int .i64 (p1_1)]) (by kernel_rfl) vt35 (fun i u hu => box_cells F1 0 hu (by rfl)) ?_
  obtain ⟨y2, hy2, hm⟩ := bindE hm
  refine wS_calls (d := 11) (f := 20) (vs := [.agg #[.int .i64 (p1_0), .int .i64 (p1_1)]]) (by kernel_rfl) ent20 (c_impl_IsPoint hy2) ?_
  rintro _ w3 ⟨rfl, hc3⟩
  replace F0 := F0.chg hc3 Dj.nil
  replace F1 := F1.chg hc3 notNil
  replace hB := hB.inS hc3 inNil
  replace hZ := Nat.le_trans hZ hc3.size
  refine ⟨.bool (y2), rfl, ?_⟩
  refine wS_pure 2 [(13, .bool (!y2)), (12, .bool (!y2))] (by kernel_rfl) ?_
  refine wS_end (by rfl) ?_
  refine eX_then ?_
  refine cW_cond (t := !y2) (by kernel_rfl) (fun hb2 => ?_) (fun hb2 => ?_)
  ·have hm := condT hb2 hm
   refine cW_seq ?_
   refine cW_region ?_
   refine wS_pure 2 [(5, .bool (false)), (4, .int .i64 (0))] (by kernel_rfl) ?_
   refine wS_end (by rfl) ?_
   refine eX_then ?_
   refine cW_ret ?_
   refine eX_then_ret ?_
   have hq : (some ((0, false)) : Option ((Int) × (Bool))) = some _ := hm
   replace hq := someE hq
   subst hq
   refine eX_ret (vs := [.int .i64 (0), .bool (false)]) [.tmp 4, .tmp 5] (by rfl) ⟨by (show lkE _ _ _ = _); kernel_rfl, ⟨by (show lkE _ _ _ = _); kernel_rfl, trivial⟩⟩ ?_
   exact ⟨rfl, hB⟩
  ·have hm := condF hb2 hm
   refine cW_skip ?_
   refine eX_then ?_
   refine cW_seq ?_
   refine cW_region ?_
   refine wS_pure 1 [(14, .slice A0 (l0).length cap0)] (by kernel_rfl) ?_
   refine wS_loadA (d := 15) (T := 35) (ad := ⟨b1, 0, none⟩) (vs := [.int .i64 (p1_0), .int .i64 (p1_1)]) (by kernel_rfl) vt35 (fun i u hu => box_cells F1 0 hu (by rfl)) ?_
   obtain ⟨y3, hy3, hm⟩ := bindE hm
   refine wS_calls (d := 16) (f := 21) (vs := [.slice A0 (l0).length cap0, .agg #[.int .i64 (p1_0), .int .i64 (p1_1)]]) (by kernel_rfl) ent21 (c_impl_gain hy3 F0 K0) ?_
   rintro _ w4 ⟨rfl, hc4⟩
   replace F0 := F0.chg hc4 Dj.nil
   replace F1 := F1.chg hc4 notNil
   replace hB := hB.inS hc4 inNil
   replace hZ := Nat.le_trans hZ hc4.size
   refine ⟨.int .i64 (y3), rfl, ?_⟩
   refine wS_pure 2 [(5, .bool (true)), (4, .int .i64 (y3))] (by kernel_rfl) ?_
   refine wS_end (by rfl) ?_
   refine eX_then ?_
   refine cW_ret ?_
   have hq : (some ((y3, true)) : Option ((Int) × (Bool))) = some _ := hm
   replace hq := someE hq
   subst hq
   refine eX_ret (vs := [.int .i64 (y3), .bool (true)]) [.tmp 4, .tmp 5] (by rfl) ⟨by (show lkE _ _ _ = _); kernel_rfl, ⟨by (show lkE _ _ _ = _); kernel_rfl, trivial⟩⟩ ?_
   exact ⟨rfl, hB⟩

set_option maxRecDepth 100000 in
/-- laws.b10In -/
theorem c_laws_b10In {w0 : World} {l0 : List (Int × Int)} {A0 : Option Addr} {cap0 : Nat} {fp0 : List Nat} {p1_0 : Int} {p1_1 : Int} {r : (Bool)} (hm : m_laws_b10In l0 p1_0 p1_1 = some r) (F0 : Sl 2 encII w0 fp0 A0 l0) :
  Calls Try.prog 13 #[.slice A0 (l0).length cap0, .agg #[.int .i64 (p1_0), .int .i64 (p1_1)]] w0 fun e w' => e = .returned (.bool (r)) ∧ Chg [] w0 w' := by
 have L0 := F0.low
 have hB : Chg [] w0 w0 := Chg.refl _ _
 have hZ := Nat.le_refl w0.heap.size
 unfold m_laws_b10In at hm
 refine enterE (N := 18) Try.func13 (by rfl) Try.ntmps13 (by simp) [(0, .slice A0 (l0).length cap0), (1, .agg #[.int .i64 (p1_0), .int .i64 (p1_1)])] (by rfl) (by kernel_rfl) (fun a => ?_)
 refine cW_seq ?_
 refine cW_region ?_
 refine wS_box (d := 3) (T := 35) (x := .agg #[.int .i64 (p1_0), .int .i64 (p1_1)]) (by kernel_rfl) ?_
 intro b1 w1 G1 F1 hc1
 replace F1 : Cl w1 b1 35 [.int .i64 (p1_0), .int .i64 (p1_1)] := F1
 replace F0 := F0.chg hc1 Dj.nil
 replace hB := hB.inS hc1 inNil
 replace G1 := Nat.le_trans hZ G1
 replace hZ := Nat.le_trans hZ hc1.size
 refine wS_pure 1 [(4, .bool (false))] (by kernel_rfl) ?_
 refine wS_end (by rfl) ?_
 refine eX_then ?_
 refine cW_seq ?_
 refine cW_seq ?_
 refine cW_region ?_
 refine wS_pure 1 [(5, .int .i64 (0))] (by kernel_rfl) ?_
 refine wS_end (by rfl) ?_
 refine eX_then ?_
 obtain ⟨r1, hr1, hm⟩ := bindE hm
 have hm1 := hm
 refine cW_cut (fun a' w' => Sum.inl (()) = r1 ∧ Fr 18 [] a' ∧ Chg [] w0 w' ∧ w0.heap.size ≤ w'.heap.size) ?_ ?_
 ·refine cW_block ?_
  refine cW_loop _ (fun (s1 : Int) a' w' => ∃ x1 : Int, x1 = s1 ∧ Fr 18 [(0, .slice A0 (l0).length cap0), (3, .pointer (some ⟨b1, 0, none⟩)), (5, .int .i64 (x1))] a' ∧ Sl 2 encII w' fp0 A0 l0 ∧ Cl w' b1 35 [.int .i64 (p1_0), .int .i64 (p1_1)] ∧ Chg [] w0 w' ∧ w0.heap.size ≤ w'.heap.size) hr1 (fun hst => ⟨0, rfl, Fr.of hst (by kernel_rfl), F0, F1, hB, hZ⟩) ?_
  rintro _ c1 a' w2 ⟨x1, rfl, hF1, F2, F3, hB, hZ⟩ hx1
  refine Fr.goOn hF1 (by kernel_rfl) ?_
  have hm := hx1
  unfold m_laws_b10In_s1 at hm
  refine cW_seq ?_
  refine cW_seq ?_
  refine cW_region ?_
  refine wS_pure 4 [(9, .bool (decide (x1 < (((l0).length : Int))))), (8, .int .i64 (((l0).length : Int))), (7, .slice A0 (l0).length cap0), (6, .int .i64 (x1))] (by kernel_rfl) ?_
  refine wS_end (by rfl) ?_
  refine eX_then ?_
  refine cW_cond (t := decide (x1 < (((l0).length : Int)))) (by kernel_rfl) (fun hb1 => ?_) (fun hb1 => ?_)
  ·have hm := condT hb1 hm
   refine cW_skip ?_
   refine eX_then ?_
   refine cW_seq ?_
   refine cW_block ?_
   refine cW_seq ?_
   refine cW_drawnTail [] 5 (by kernel_rfl) (by kernel_rfl) (fun w3 hc2 => ?_)
   replace F2 := F2.chg hc2 Dj.nil
   replace F3 := F3.chg hc2 notNil
   replace hB := hB.inS hc2 inNil
   replace hZ := Nat.le_trans hZ hc2.size
   have hS := Chg.refl [] w3
   have Z1 := F2
   have Z2 := F3
   refine wH_take [0, 1] [1, 0] [(13, .int .i64 (x1)), (12, .slice A0 (l0).length cap0)] (by kernel_rfl) (qT (qT (qB (qT (qL (qB (qT (qT qZ)))))))) (by kernel_rfl) ?_
   obtain ⟨x2, hx2, hm⟩ := bindE hm
   refine wH_idx (i := 2) (d := 14) (T := 24) (A := A0) (n := (l0).length) (cap := cap0) (kd := .i64) (m := x1) (by kernel_rfl) (qT (qT (qB (qT (qL (qB (qT (qT qZ)))))))) (by kernel_rfl) (by kernel_rfl) sl24 (F2.is hx2) ?_
   refine wH_loadA (i := 3) (d := 15) (T := 35) (ad := (elA A0 2 (x1) 0)) (vs := [.int .i64 (x2.1), .int .i64 (x2.2)]) (by kernel_rfl) (qT (qT (qB (qT (qL (qB (qT (qT qZ)))))))) (by kernel_rfl) (by kernel_rfl) vt35 (fun W hW i u hu => Sl.cells_at (Z1.chg hW Dj.nil) hx2 0 hu (by rfl)) ?_
   refine wH_loadA (i := 4) (d := 16) (T := 35) (ad := ⟨b1, 0, none⟩) (vs := [.int .i64 (p1_0), .int .i64 (p1_1)]) (by kernel_rfl) (qT (qT (qB (qT (qL (qB (qT (qT qZ)))))))) (by kernel_rfl) (by kernel_rfl) vt35 (fun W hW i u hu => box_cells (Z2.chg hW notNil) 0 hu (by rfl)) ?_
   refine wH_done (by kernel_rfl) ?_
   refine eX_tail ?_
   refine wS_eqS (d := 17) (T := 35) (x := x2.1) (y := x2.2) (x' := p1_0) (y' := p1_1) (by kernel_rfl) eq35 ?_
   refine wS_end (by rfl) ?_
   refine eX_then ?_
   refine cW_cond (t := x2.1 == p1_0 && x2.2 == p1_1) (by kernel_rfl) (fun hb2 => ?_) (fun hb2 => ?_)
   ·have hm := condT hb2 hm
    refine cW_seq ?_
    refine cW_region ?_
    refine wS_pure 1 [(4, .bool (true))] (by kernel_rfl) ?_
    refine wS_end (by rfl) ?_
    refine eX_then ?_
    refine cW_ret ?_
    refine eX_block_ret ?_
    refine eX_then_ret ?_
    have hq : (some (Ctl.out (Sum.inr true)) : Option (Ctl (Int) (Sum (Unit) ((Bool))))) = some _ := hm
    replace hq := someE hq
    subst hq
    refine eX_outR hx1 (fun hr => ?_)
    subst hr
    refine eX_block_ret ?_
    refine eX_then_ret ?_
    refine eX_then_ret ?_
    have hq : (some true : Option ((Bool))) = some _ := hm1
    replace hq := someE hq
    subst hq
    refine eX_ret (vs := [.bool (true)]) [.tmp 4] (by rfl) ⟨by (show lkE _ _ _ = _); kernel_rfl, trivial⟩ ?_
    exact ⟨rfl, hB⟩
   ·have hm := condF hb2 hm
    refine cW_skip ?_
    refine eX_block ?_
    refine eX_then ?_
    refine cW_region ?_
    refine wS_pure 3 [(5, .int .i64 (wr (x1 + 1))), (11, .int .i64 (wr (x1 + 1))), (10, .int .i64 (x1))] (by kernel_rfl) ?_
    refine wS_end (by rfl) ?_
    have hq : (some (Ctl.next (wr (x1 + 1))) : Option (Ctl (Int) (Sum (Unit) ((Bool))))) = some _ := hm
    replace hq := someE hq
    subst hq
    exact eX_next hx1 (fun hst => ⟨wr (x1 + 1), rfl, Fr.of hst (by kernel_rfl), F2, F3, hB, hZ⟩)
  ·have hm := condF hb1 hm
   refine cW_exit ?_
   refine eX_then_exit ?_
   have hq : (some (Ctl.out (Sum.inl (()))) : Option (Ctl (Int) (Sum (Unit) ((Bool))))) = some _ := hm
   replace hq := someE hq
   subst hq
   refine eX_outX hx1 (fun hr2 => ?_)
   replace hr2 := hr2.symm
   subst hr2
   refine eX_block_hit ?_
   exact eX_J (fun hst => ⟨rfl, Fr.of hst (by kernel_rfl), hB, hZ⟩)
 ·rintro a' w4 ⟨hJ, hF2, hB, hZ⟩
  subst hJ
  refine Fr.goX hF2 (by kernel_rfl) ?_
  refine eX_then ?_
  refine cW_seq ?_
  refine cW_region ?_
  refine wS_pure 1 [(4, .bool (false))] (by kernel_rfl) ?_
  refine wS_end (by rfl) ?_
  refine eX_then ?_
  refine cW_ret ?_
  have hq : (some false : Option ((Bool))) = some _ := hm
  replace hq := someE hq
  subst hq
  refine eX_ret (vs := [.bool (false)]) [.tmp 4] (by rfl) ⟨by (show lkE _ _ _ = _); kernel_rfl, trivial⟩ ?_
  exact ⟨rfl, hB⟩

set_option maxHeartbeats 20000000 in
set_option maxRecDepth 100000 in
/-- laws.FnTrees -/
theorem c_laws_FnTrees {w0 : World} {l0 : List (Int)} {A0 : Option Addr} {cap0 : Nat} {fp0 : List Nat} {l1 : List (Int)} {A1 : Option Addr} {cap1 : Nat} {fp1 : List Nat} {r : (Bool)} (hm : m_laws_FnTrees l0 l1 = some r) (F0 : Sl 1 encU w0 fp0 A0 l0) (F1 : Sl 1 encU w0 fp1 A1 l1) :
  Calls Try.prog 3 #[.slice A0 (l0).length cap0, .slice A1 (l1).length cap1] w0 fun e w' => e = .returned (.bool (r)) ∧ Chg [] w0 w' := by
 have L0 := F0.low
 have L1 := F1.low
 have hB : Chg [] w0 w0 := Chg.refl _ _
 have hZ := Nat.le_refl w0.heap.size
 unfold m_laws_FnTrees at hm
 refine enterE (N := 257) Try.func3 (by rfl) Try.ntmps3 (by simp) [(0, .slice A0 (l0).length cap0), (1, .slice A1 (l1).length cap1)] (by rfl) (by kernel_rfl) (fun a => ?_)
 refine cW_seq ?_
 refine cW_region ?_
 refine wS_pure 1 [(4, .bool (false))] (by kernel_rfl) ?_
 refine wS_end (by rfl) ?_
 refine eX_then ?_
 refine cW_seq ?_
 refine cW_seq ?_
 refine cW_region ?_
 refine wS_pure 2 [(29, .slice A1 (l1).length cap1), (28, .slice A0 (l0).length cap0)] (by kernel_rfl) ?_
 obtain ⟨y1, hy1, hm⟩ := bindE hm
 refine wS_calls (d := 30) (f := 4) (vs := [.slice A0 (l0).length cap0, .slice A1 (l1).length cap1]) (by kernel_rfl) ent4 (c_laws_b10Long hy1 F0 F1) ?_
 rintro _ w1 ⟨rfl, hc1⟩
 replace F0 := F0.chg hc1 Dj.nil
 replace F1 := F1.chg hc1 Dj.nil
 replace hB := hB.inS hc1 inNil
 replace hZ := Nat.le_trans hZ hc1.size
 refine ⟨.bool (y1), rfl, ?_⟩
 refine wS_end (by rfl) ?_
 refine eX_then ?_
 refine cW_cond (t := y1) (by kernel_rfl) (fun hb1 => ?_) (fun hb1 => ?_)
 ·have hm := condT hb1 hm
  refine cW_seq ?_
  refine cW_region ?_
  refine wS_pure 1 [(4, .bool (true))] (by kernel_rfl) ?_
  refine wS_end (by rfl) ?_
  refine eX_then ?_
  refine cW_ret ?_
  refine eX_then_ret ?_
  have hq : (some true : Option ((Bool))) = some _ := hm
  replace hq := someE hq
  subst hq
  refine eX_ret (vs := [.bool (true)]) [.tmp 4] (by rfl) ⟨by (show lkE _ _ _ = _); kernel_rfl, trivial⟩ ?_
  exact ⟨rfl, hB⟩
 ·have hm := condF hb1 hm
  refine cW_skip ?_
  refine eX_then ?_
  refine cW_seq ?_
  refine cW_region ?_
  refine wS_pure 1 [(31, .slice A0 (l0).length cap0)] (by kernel_rfl) ?_
  obtain ⟨y2, hy2, hm⟩ := bindE hm
  refine wS_calls (d := 32) (f := 5) (vs := [.slice A0 (l0).length cap0, .int .i64 (6)]) (by kernel_rfl) ent5 (c_spec_B10Pins hy2 F0) ?_
  rintro _ w2 ⟨A3, cap3, fp2, rfl, F2, G1, hc2⟩
  replace F0 := F0.chg hc2 Dj.nil
  replace F1 := F1.chg hc2 Dj.nil
  replace hB := hB.inS hc2 inNil
  replace G1 := low_le hZ G1
  replace hZ := Nat.le_trans hZ hc2.size
  refine ⟨.slice A3 (y2).length cap3, rfl, ?_⟩
  refine wS_pure 1 [(5, .slice A3 (y2).length cap3)] (by kernel_rfl) ?_
  refine wS_end (by rfl) ?_
  refine eX_then ?_
  refine cW_seq ?_
  refine cW_region ?_
  refine wS_pure 3 [(6, .int .i64 (((y2).length : Int))), (34, .int .i64 (((y2).length : Int))), (33, .slice A3 (y2).length cap3)] (by kernel_rfl) ?_
  refine wS_end (by rfl) ?_
  refine eX_then ?_
  refine cW_seq ?_
  refine cW_region ?_
  refine wS_pure 1 [(36, .slice A3 (y2).length cap3)] (by kernel_rfl) ?_
  obtain ⟨y3, hy3, hm⟩ := bindE hm
  refine wS_calls (d := 37) (f := 6) (vs := [.slice A3 (y2).length cap3]) (by kernel_rfl) ent6 (c_impl_SpanningTree hy3 (F2.sl encII_ok)) ?_
  rintro _ w3 ⟨A4, cap4, fp3, fr1, rfl, F3, G2, hc3⟩
  have D1 : Dj fp2 (fp3 ++ fr1) := Dj.of F2.low G2
  replace F0 := F0.chg hc3 Dj.nil
  replace F1 := F1.chg hc3 Dj.nil
  replace F2 := F2.chg hc3 Dj.nil
  replace hB := hB.inS hc3 inNil
  replace G2 := low_le hZ G2
  replace hZ := Nat.le_trans hZ hc3.size
  refine ⟨.tuple #[.slice A4 (y3.1).length cap4, .int .i64 (y3.2.1), .bool (y3.2.2)], rfl, ?_⟩
  refine wS_pure 7 [(9, .bool (y3.2.2)), (8, .int .i64 (y3.2.1)), (7, .slice A4 (y3.1).length cap4), (40, .bool (y3.2.2)), (39, .int .i64 (y3.2.1)), (38, .slice A4 (y3.1).length cap4), (35, .tuple #[.slice A4 (y3.1).length cap4, .int .i64 (y3.2.1), .bool (y3.2.2)])] (by kernel_rfl) ?_
  refine wS_end (by rfl) ?_
  refine eX_then ?_
  refine cW_seq ?_
  refine cW_region ?_
  refine wS_pure 1 [(42, .slice A3 (y2).length cap3)] (by kernel_rfl) ?_
  obtain ⟨y4, hy4, hm⟩ := bindE hm
  refine wS_calls (d := 43) (f := 7) (vs := [.slice A3 (y2).length cap3]) (by kernel_rfl) ent7 (c_impl_SteinerLength hy4 (F2.sl encII_ok)) ?_
  rintro _ w4 ⟨rfl, hc4⟩
  replace F0 := F0.chg hc4 Dj.nil
  replace F1 := F1.chg hc4 Dj.nil
  replace F2 := F2.chg hc4 Dj.nil
  replace F3 := F3.chg hc4 Dj.nil
  replace hB := hB.inS hc4 inNil
  replace hZ := Nat.le_trans hZ hc4.size
  refine ⟨.tuple #[.int .i64 (y4.1), .bool (y4.2)], rfl, ?_⟩
  refine wS_pure 5 [(11, .bool (y4.2)), (10, .int .i64 (y4.1)), (45, .bool (y4.2)), (44, .int .i64 (y4.1)), (41, .tuple #[.int .i64 (y4.1), .bool (y4.2)])] (by kernel_rfl) ?_
  refine wS_end (by rfl) ?_
  refine eX_then ?_
  refine cW_prune [(1, .slice A1 (l1).length cap1), (5, .slice A3 (y2).length cap3), (6, .int .i64 (((y2).length : Int))), (7, .slice A4 (y3.1).length cap4), (8, .int .i64 (y3.2.1)), (9, .bool (y3.2.2)), (10, .int .i64 (y4.1)), (11, .bool (y4.2))] (by kernel_rfl) (by kernel_rfl) (fun a1 => ?_)
  refine cW_seq ?_
  refine cW_seq ?_
  refine cW_region ?_
  refine wS_pure 3 [(48, .bool (!y3.2.2)), (47, .bool (!y3.2.2)), (46, .bool (y3.2.2))] (by kernel_rfl) ?_
  refine wS_bool (!y3.2.2) (fun hb2 => ?_) (fun hb2 => ?_)
  ·have hm := condT hb2 hm
   rewrite [hb2]
   refine wS_pure 15 [(63, .bool (true)), (62, undef), (61, undef), (60, undef), (59, .bool (true)), (58, .bool (true)), (57, undef), (56, undef), (55, undef), (54, undef), (53, undef), (52, .bool (true)), (51, .bool (true)), (50, undef), (49, undef)] (by kernel_rfl) ?_
   refine wS_end (by rfl) ?_
   refine eX_then ?_
   refine cW_prune [(1, .slice A1 (l1).length cap1), (5, .slice A3 (y2).length cap3), (6, .int .i64 (((y2).length : Int))), (7, .slice A4 (y3.1).length cap4), (8, .int .i64 (y3.2.1)), (10, .int .i64 (y4.1)), (63, .bool (true))] (by kernel_rfl) (by kernel_rfl) (fun a2 => ?_)
   refine cW_cond_t (by kernel_rfl) ?_
   refine cW_seq ?_
   refine cW_region ?_
   refine wS_pure 1 [(4, .bool (false))] (by kernel_rfl) ?_
   refine wS_end (by rfl) ?_
   refine eX_then ?_
   refine cW_ret ?_
   refine eX_then_ret ?_
   have hq : (some false : Option ((Bool))) = some _ := hm
   replace hq := someE hq
   subst hq
   refine eX_ret (vs := [.bool (false)]) [.tmp 4] (by rfl) ⟨by (show lkE _ _ _ = _); kernel_rfl, trivial⟩ ?_
   exact ⟨rfl, hB⟩
  ·have hm := condF hb2 hm
   rewrite [hb2]
   refine wS_pure 4 [(52, .bool (!y4.2)), (51, .bool (!y4.2)), (50, .bool (!y4.2)), (49, .bool (y4.2))] (by kernel_rfl) ?_
   refine wS_bool (!y4.2) (fun hb3 => ?_) (fun hb3 => ?_)
   ·have hm := condT hb3 hm
    rewrite [hb3]
    refine wS_pure 11 [(63, .bool (true)), (62, undef), (61, undef), (60, undef), (59, .bool (true)), (58, .bool (true)), (57, undef), (56, undef), (55, undef), (54, undef), (53, undef)] (by kernel_rfl) ?_
    refine wS_end (by rfl) ?_
    refine eX_then ?_
    refine cW_prune [(1, .slice A1 (l1).length cap1), (5, .slice A3 (y2).length cap3), (6, .int .i64 (((y2).length : Int))), (7, .slice A4 (y3.1).length cap4), (8, .int .i64 (y3.2.1)), (10, .int .i64 (y4.1)), (63, .bool (true))] (by kernel_rfl) (by kernel_rfl) (fun a3 => ?_)
    refine cW_cond_t (by kernel_rfl) ?_
    refine cW_seq ?_
    refine cW_region ?_
    refine wS_pure 1 [(4, .bool (false))] (by kernel_rfl) ?_
    refine wS_end (by rfl) ?_
    refine eX_then ?_
    refine cW_ret ?_
    refine eX_then_ret ?_
    have hq : (some false : Option ((Bool))) = some _ := hm
    replace hq := someE hq
    subst hq
    refine eX_ret (vs := [.bool (false)]) [.tmp 4] (by rfl) ⟨by (show lkE _ _ _ = _); kernel_rfl, trivial⟩ ?_
    exact ⟨rfl, hB⟩
   ·have hm := condF hb3 hm
    rewrite [hb3]
    refine wS_pure 7 [(59, .bool ((((y3.1).length : Int)) != (wr ((((y2).length : Int)) - 1)))), (58, .bool ((((y3.1).length : Int)) != (wr ((((y2).length : Int)) - 1)))), (57, .bool ((((y3.1).length : Int)) != (wr ((((y2).length : Int)) - 1)))), (56, .int .i64 (wr ((((y2).length : Int)) - 1))), (55, .int .i64 (((y2).length : Int))), (54, .int .i64 (((y3.1).length : Int))), (53, .slice A4 (y3.1).length cap4)] (by kernel_rfl) ?_
    refine wS_bool ((((y3.1).length : Int)) != (wr ((((y2).length : Int)) - 1))) (fun hb4 => ?_) (fun hb4 => ?_)
    ·have hm := condT hb4 hm
     rewrite [hb4]
     refine wS_pure 4 [(63, .bool (true)), (62, undef), (61, undef), (60, undef)] (by kernel_rfl) ?_
     refine wS_end (by rfl) ?_
     refine eX_then ?_
     refine cW_prune [(1, .slice A1 (l1).length cap1), (5, .slice A3 (y2).length cap3), (6, .int .i64 (((y2).length : Int))), (7, .slice A4 (y3.1).length cap4), (8, .int .i64 (y3.2.1)), (10, .int .i64 (y4.1)), (63, .bool (true))] (by kernel_rfl) (by kernel_rfl) (fun a4 => ?_)
     refine cW_cond_t (by kernel_rfl) ?_
     refine cW_seq ?_
     refine cW_region ?_
     refine wS_pure 1 [(4, .bool (false))] (by kernel_rfl) ?_
     refine wS_end (by rfl) ?_
     refine eX_then ?_
     refine cW_ret ?_
     refine eX_then_ret ?_
     have hq : (some false : Option ((Bool))) = some _ := hm
     replace hq := someE hq
     subst hq
     refine eX_ret (vs := [.bool (false)]) [.tmp 4] (by rfl) ⟨by (show lkE _ _ _ = _); kernel_rfl, trivial⟩ ?_
     exact ⟨rfl, hB⟩
    ·have hm := condF hb4 hm
     rewrite [hb4]
     refine wS_pure 1 [(60, .slice A3 (y2).length cap3)] (by kernel_rfl) ?_
     obtain ⟨y5, hy5, hm⟩ := bindE hm
     refine wS_calls (d := 61) (f := 8) (vs := [.slice A3 (y2).length cap3]) (by kernel_rfl) ent8 (c_impl_ArePins hy5 (F2.sl encII_ok)) ?_
     rintro _ w5 ⟨rfl, hc5⟩
     replace F0 := F0.chg hc5 Dj.nil
     replace F1 := F1.chg hc5 Dj.nil
     replace F2 := F2.chg hc5 Dj.nil
     replace F3 := F3.chg hc5 Dj.nil
     replace hB := hB.inS hc5 inNil
     replace hZ := Nat.le_trans hZ hc5.size
     refine ⟨.bool (y5), rfl, ?_⟩
     refine wS_pure 2 [(63, .bool (!y5)), (62, .bool (!y5))] (by kernel_rfl) ?_
     refine wS_end (by rfl) ?_
     refine eX_then ?_
     refine cW_prune [(1, .slice A1 (l1).length cap1), (5, .slice A3 (y2).length cap3), (6, .int .i64 (((y2).length : Int))), (7, .slice A4 (y3.1).length cap4), (8, .int .i64 (y3.2.1)), (10, .int .i64 (y4.1)), (63, .bool (!y5))] (by kernel_rfl) (by kernel_rfl) (fun a5 => ?_)
     refine cW_cond (t := !y5) (by kernel_rfl) (fun hb5 => ?_) (fun hb5 => ?_)
     ·have hm := condT hb5 hm
      refine cW_seq ?_
      refine cW_region ?_
      refine wS_pure 1 [(4, .bool (false))] (by kernel_rfl) ?_
      refine wS_end (by rfl) ?_
      refine eX_then ?_
      refine cW_ret ?_
      refine eX_then_ret ?_
      have hq : (some false : Option ((Bool))) = some _ := hm
      replace hq := someE hq
      subst hq
      refine eX_ret (vs := [.bool (false)]) [.tmp 4] (by rfl) ⟨by (show lkE _ _ _ = _); kernel_rfl, trivial⟩ ?_
      exact ⟨rfl, hB⟩
     ·have hm := condF hb5 hm
      refine cW_skip ?_
      refine eX_then ?_
      refine cW_seq ?_
      refine cW_region ?_
      refine wS_pure 1 [(64, .int .i64 (((y2).length : Int)))] (by kernel_rfl) ?_
      obtain ⟨_, hk1, hm⟩ := bindE hm
      replace hk1 := mkE hk1
      refine wS_make (enc := encI) (x0 := (0 : Int)) (d := 65) (t := 32) (T := 2) (k1 := .i64) (k2 := .i64) (m := ((y2).length : Int)) (by kernel_rfl) el32 encI_ok (by rfl) hk1.1 hk1.2 ?_
      intro b1 w6 G3 F4 hc6
      have D2 : Dj fp2 [b1] := Dj.of F2.low (low1 G3)
      have D3 : Dj (fp3 ++ fr1) [b1] := Dj.of F3.low (low1 G3)
      replace F0 := F0.chg hc6 Dj.nil
      replace F1 := F1.chg hc6 Dj.nil
      replace F2 := F2.chg hc6 Dj.nil
      replace F3 := F3.chg hc6 Dj.nil
      replace hB := hB.inS hc6 inNil
      replace G3 := Nat.le_trans hZ G3
      replace G3 := low1 G3
      replace hZ := Nat.le_trans hZ hc6.size
      refine wS_pure 1 [(12, .slice (some ⟨b1, 0, none⟩) (List.replicate (Int.toNat (((y2).length : Int))) ((0 : Int))).length (Int.toNat (((y2).length : Int))))] (by kernel_rfl) ?_
      refine wS_end (by rfl) ?_
      refine eX_then ?_
      refine cW_seq ?_
      refine cW_seq ?_
      refine cW_region ?_
      refine wS_pure 1 [(13, .int .i64 (0))] (by kernel_rfl) ?_
      refine wS_end (by rfl) ?_
      refine eX_then ?_
      obtain ⟨r1, hr1, hm⟩ := bindE hm
      have hm1 := hm
      refine cW_cut (fun a' w' => ∃ l3 : List (Int), l3 = r1 ∧ Fr 257 [(1, .slice A1 (l1).length cap1), (5, .slice A3 (y2).length cap3), (6, .int .i64 (((y2).length : Int))), (7, .slice A4 (y3.1).length cap4), (8, .int .i64 (y3.2.1)), (10, .int .i64 (y4.1)), (12, .slice (some ⟨b1, 0, none⟩) (l3).length (Int.toNat (((y2).length : Int))))] a' ∧ Sl 1 encU w' fp1 A1 l1 ∧ Ow 2 encII 35 w' fp2 A3 cap3 y2 ∧ OwR 1 encI 32 2 w' fp3 fr1 A4 cap4 y3.1 ∧ Ow 1 encI 2 w' [b1] (some ⟨b1, 0, none⟩) (Int.toNat (((y2).length : Int))) l3 ∧ Chg [] w0 w' ∧ w0.heap.size ≤ w'.heap.size) ?_ ?_
      ·refine cW_block ?_
       refine cW_loop _ (fun (s1 : Int × (List (Int))) a' w' => ∃ x1 : Int, ∃ l4 : List (Int), (x1, l4) = s1 ∧ Fr 257 [(1, .slice A1 (l1).length cap1), (5, .slice A3 (y2).length cap3), (6, .int .i64 (((y2).length : Int))), (7, .slice A4 (y3.1).length cap4), (8, .int .i64 (y3.2.1)), (10, .int .i64 (y4.1)), (12, .slice (some ⟨b1, 0, none⟩) (l4).length (Int.toNat (((y2).length : Int)))), (13, .int .i64 (x1))] a' ∧ Sl 1 encU w' fp1 A1 l1 ∧ Ow 2 encII 35 w' fp2 A3 cap3 y2 ∧ OwR 1 encI 32 2 w' fp3 fr1 A4 cap4 y3.1 ∧ Ow 1 encI 2 w' [b1] (some ⟨b1, 0, none⟩) (Int.toNat (((y2).length : Int))) l4 ∧ Chg [] w0 w' ∧ w0.heap.size ≤ w'.heap.size) hr1 (fun hst => ⟨0, List.replicate (Int.toNat (((y2).length : Int))) ((0 : Int)), rfl, Fr.of hst (by kernel_rfl), F1, F2, F3, F4, hB, hZ⟩) ?_
       rintro _ c1 a' w7 ⟨x1, l4, rfl, hF1, F5, F6, F7, F8, hB, hZ⟩ hx1
       refine Fr.goOn hF1 (by kernel_rfl) ?_
       have hm := hx1
       unfold m_laws_FnTrees_s1 at hm
       refine cW_seq ?_
       refine cW_seq ?_
       refine cW_region ?_
       refine wS_pure 3 [(68, .bool (decide (x1 < (((y2).length : Int))))), (67, .int .i64 (((y2).length : Int))), (66, .int .i64 (x1))] (by kernel_rfl) ?_
       refine wS_end (by rfl) ?_
       refine eX_then ?_
       refine cW_cond (t := decide (x1 < (((y2).length : Int)))) (by kernel_rfl) (fun hb6 => ?_) (fun hb6 => ?_)
       ·have hm := condT hb6 hm
        refine cW_skip ?_
        refine eX_then ?_
        refine cW_seq ?_
        refine cW_block ?_
        refine cW_region ?_
        refine wS_pure 3 [(73, .int .i64 (x1)), (72, .int .i64 (x1)), (71, .slice (some ⟨b1, 0, none⟩) (l4).length (Int.toNat (((y2).length : Int))))] (by kernel_rfl) ?_
        obtain ⟨x2, hx2, hm⟩ := bindE hm
        refine wS_idx (d := 74) (T := 32) (A := (some ⟨b1, 0, none⟩)) (n := (l4).length) (cap := (Int.toNat (((y2).length : Int)))) (kd := .i64) (m := x1) (by kernel_rfl) sl32 ((F8.sl encI_ok).is hx2) ?_
        refine wS_storeEl (x := x2) x1 (T := 2) (U := 2) (cap := (Int.toNat (((y2).length : Int)))) (j := 0) (A := (some ⟨b1, 0, none⟩)) (v := .int .i64 (x1)) (vs := [.int .i64 (x1)]) (m := x1) (by kernel_rfl) (by rfl) sz2 (by rfl) encI_ok F8 hx2 (by simp only [List.length_cons, List.length_nil]; omega) (by rfl) ?_
        intro w8 F9 hc7
        replace F5 := F5.chg hc7 (Dj.of L1 G3)
        replace F6 := F6.chg hc7 D2
        replace F7 := F7.chg hc7 D3
        replace hB := hB.inS hc7 (inLow G3)
        replace hZ := Nat.le_trans hZ hc7.size
        clear F8
        rewrite [show (l4).length = (l4.set (Int.toNat x1) x1).length from (List.length_set ..).symm]
        refine wS_end (by rfl) ?_
        refine eX_block ?_
        refine eX_then ?_
        refine cW_region ?_
        refine wS_pure 3 [(13, .int .i64 (wr (x1 + 1))), (70, .int .i64 (wr (x1 + 1))), (69, .int .i64 (x1))] (by kernel_rfl) ?_
        refine wS_end (by rfl) ?_
        have hq : (some (Ctl.next ((wr (x1 + 1), l4.set (Int.toNat x1) x1))) : Option (Ctl (Int × (List (Int))) ((List (Int))))) = some _ := hm
        replace hq := someE hq
        subst hq
        exact eX_next hx1 (fun hst => ⟨wr (x1 + 1), l4.set (Int.toNat x1) x1, rfl, Fr.of hst (by kernel_rfl), F5, F6, F7, F9, hB, hZ⟩)
       ·have hm := condF hb6 hm
        refine cW_exit ?_
        refine eX_then_exit ?_
        have hq : (some (Ctl.out l4) : Option (Ctl (Int × (List (Int))) ((List (Int))))) = some _ := hm
        replace hq := someE hq
        subst hq
        refine eX_outX hx1 (fun hr2 => ?_)
        replace hr2 := hr2.symm
        subst hr2
        refine eX_block_hit ?_
        exact eX_J (fun hst => ⟨l4, rfl, Fr.of hst (by kernel_rfl), F5, F6, F7, F8, hB, hZ⟩)
      ·rintro a' w9 ⟨l3, hJ, hF2, F10, F11, F12, F13, hB, hZ⟩
       subst hJ
       refine Fr.goX hF2 (by kernel_rfl) ?_
       refine eX_then ?_
       refine cW_seq ?_
       refine cW_region ?_
       refine wS_pure 1 [(14, .int .i64 (0))] (by kernel_rfl) ?_
       refine wS_end (by rfl) ?_
       refine eX_then ?_
       refine cW_seq ?_
       refine cW_seq ?_
       refine cW_region ?_
       refine wS_pure 1 [(15, .int .i64 (0))] (by kernel_rfl) ?_
       refine wS_end (by rfl) ?_
       refine eX_then ?_
       obtain ⟨r2, hr3, hm⟩ := bindE hm
       have hm2 := hm
       refine cW_cut (fun a' w' => ∃ x3 : Int, Sum.inl x3 = r2 ∧ Fr 257 [(1, .slice A1 (l1).length cap1), (5, .slice A3 (y2).length cap3), (6, .int .i64 (((y2).length : Int))), (8, .int .i64 (y3.2.1)), (10, .int .i64 (y4.1)), (14, .int .i64 (x3))] a' ∧ Sl 1 encU w' fp1 A1 l1 ∧ Ow 2 encII 35 w' fp2 A3 cap3 y2 ∧ Chg [] w0 w' ∧ w0.heap.size ≤ w'.heap.size) ?_ ?_
       ·refine cW_block ?_
        refine cW_loop _ (fun (s2 : Int × Int × (List (Int))) a' w' => ∃ x4 : Int, ∃ x5 : Int, ∃ l5 : List (Int), (x4, x5, l5) = s2 ∧ Fr 257 [(1, .slice A1 (l1).length cap1), (5, .slice A3 (y2).length cap3), (6, .int .i64 (((y2).length : Int))), (7, .slice A4 (y3.1).length cap4), (8, .int .i64 (y3.2.1)), (10, .int .i64 (y4.1)), (12, .slice (some ⟨b1, 0, none⟩) (l5).length (Int.toNat (((y2).length : Int)))), (14, .int .i64 (x4)), (15, .int .i64 (x5))] a' ∧ Sl 1 encU w' fp1 A1 l1 ∧ Ow 2 encII 35 w' fp2 A3 cap3 y2 ∧ OwR 1 encI 32 2 w' fp3 fr1 A4 cap4 y3.1 ∧ Ow 1 encI 2 w' [b1] (some ⟨b1, 0, none⟩) (Int.toNat (((y2).length : Int))) l5 ∧ Chg [] w0 w' ∧ w0.heap.size ≤ w'.heap.size) hr3 (fun hst => ⟨0, 0, l3, rfl, Fr.of hst (by kernel_rfl), F10, F11, F12, F13, hB, hZ⟩) ?_
        rintro _ c2 a' w10 ⟨x4, x5, l5, rfl, hF3, F14, F15, F16, F17, hB, hZ⟩ hx3
        refine Fr.goOn hF3 (by kernel_rfl) ?_
        have hm := hx3
        unfold m_laws_FnTrees_s4 at hm
        refine cW_seq ?_
        refine cW_seq ?_
        refine cW_region ?_
        refine wS_pure 4 [(78, .bool (decide (x5 < (((y3.1).length : Int))))), (77, .int .i64 (((y3.1).length : Int))), (76, .slice A4 (y3.1).length cap4), (75, .int .i64 (x5))] (by kernel_rfl) ?_
        refine wS_end (by rfl) ?_
        refine eX_then ?_
        refine cW_cond (t := decide (x5 < (((y3.1).length : Int)))) (by kernel_rfl) (fun hb7 => ?_) (fun hb7 => ?_)
        ·have hm := condT hb7 hm
         refine cW_skip ?_
         refine eX_then ?_
         refine cW_seq ?_
         refine cW_block ?_
         refine cW_seq ?_
         refine cW_seq ?_
         refine cW_drawnTail [] 38 (by kernel_rfl) (by kernel_rfl) (fun w11 hc8 => ?_)
         replace F14 := F14.chg hc8 Dj.nil
         replace F15 := F15.chg hc8 Dj.nil
         replace F16 := F16.chg hc8 Dj.nil
         replace F17 := F17.chg hc8 Dj.nil
         replace hB := hB.inS hc8 inNil
         replace hZ := Nat.le_trans hZ hc8.size
         have hS := Chg.refl [] w11
         have Z1 := F14
         have Z2 := F15
         have Z3 := F16
         have Z4 := F17
         refine wH_take [0, 1] [1, 0] [(82, .int .i64 (x5)), (81, .slice A4 (y3.1).length cap4)] (by kernel_rfl) (qT (qT (qT (qB (qT (qL (qB (qT (qT qZ))))))))) (by kernel_rfl) ?_
         obtain ⟨x6, hx4, hm⟩ := bindE hm
         refine wH_idx (i := 2) (d := 83) (T := 26) (A := A4) (n := (y3.1).length) (cap := cap4) (kd := .i64) (m := x5) (by kernel_rfl) (qT (qT (qT (qB (qT (qL (qB (qT (qT qZ))))))))) (by kernel_rfl) (by kernel_rfl) sl26 ((F16.slr encI_ok).is hx4) ?_
         obtain ⟨A5, cap5, hc9, F18, K1⟩ := OwR.row Z3 encI_ok hx4
         have G4 := low_inr G2
         have Dm1 := (F16.dj).symm
         refine wH_load1 (i := 3) (d := 84) (T := 32) (ad := (elA A4 1 (x5) 0)) (v := .slice A5 (x6).length cap5) (by kernel_rfl) (qT (qT (qT (qB (qT (qL (qB (qT (qT qZ))))))))) (by kernel_rfl) (by kernel_rfl) vt32 (fun W hW => hW.keep hc9) ?_
         refine wH_take [4, 5, 6] [6, 5, 4, 3, 2, 1, 0] [(87, .bool ((((x6).length : Int)) != 2)), (86, .bool ((((x6).length : Int)) != 2)), (85, .int .i64 (((x6).length : Int)))] (by kernel_rfl) (qT (qT (qT (qB (qT (qL (qB (qT (qT qZ))))))))) (by kernel_rfl) ?_
         refine wH_bool ((((x6).length : Int)) != 2) (fun hb8 => ?_) (fun hb8 => ?_)
         ·have hm := condT hb8 hm
          rewrite [hb8]
          refine wH_take [7, 8, 9, 10, 11, 12, 13, 14, 15, 16, 17, 18, 19, 20, 21, 22, 23, 24, 25, 26, 27, 28, 29, 30, 31, 32, 33, 34, 35, 36, 37] [37, 36, 35, 34, 33, 32, 31, 30, 29, 28, 27, 26, 25, 24, 23, 22, 21, 20, 19, 18, 17, 16, 15, 14, 13, 12, 11, 10, 9, 8, 7, 6, 5, 4, 3, 2, 1, 0] [(118, undef), (117, undef), (116, undef), (115, undef), (114, undef), (113, undef), (112, undef), (111, .bool (true)), (110, .bool (true)), (109, undef), (108, undef), (107, undef), (106, undef), (105, undef), (104, undef), (103, undef), (102, undef), (101, undef), (100, undef), (99, undef), (98, undef), (97, undef), (96, .bool (true)), (95, .bool (true)), (94, undef), (93, undef), (92, undef), (91, undef), (90, undef), (89, undef), (88, undef)] (by kernel_rfl) (qT (qT (qT (qB (qT (qL (qB (qT (qT qZ))))))))) (by kernel_rfl) ?_
          refine wH_done (by kernel_rfl) ?_
          refine eX_tail ?_
          refine wS_pure 2 [(120, .bool (true)), (119, undef)] (by kernel_rfl) ?_
          refine wS_end (by rfl) ?_
          refine eX_then ?_
          refine cW_prune [(1, .slice A1 (l1).length cap1), (5, .slice A3 (y2).length cap3), (6, .int .i64 (((y2).length : Int))), (7, .slice A4 (y3.1).length cap4), (8, .int .i64 (y3.2.1)), (10, .int .i64 (y4.1)), (12, .slice (some ⟨b1, 0, none⟩) (l5).length (Int.toNat (((y2).length : Int)))), (14, .int .i64 (x4)), (15, .int .i64 (x5)), (120, .bool (true))] (by kernel_rfl) (by kernel_rfl) (fun a6 => ?_)
          refine cW_cond_t (by kernel_rfl) ?_
          refine cW_seq ?_
          refine cW_region ?_
          refine wS_pure 1 [(4, .bool (false))] (by kernel_rfl) ?_
          refine wS_end (by rfl) ?_
          refine eX_then ?_
          refine cW_ret ?_
          refine eX_then_ret ?_
          refine eX_block_ret ?_
          refine eX_then_ret ?_
          have hq : (some (Ctl.out (Sum.inr false)) : Option (Ctl (Int × Int × (List (Int))) (Sum (Int) ((Bool))))) = some _ := hm
          replace hq := someE hq
          subst hq
          refine eX_outR hx3 (fun hr => ?_)
          subst hr
          refine eX_block_ret ?_
          refine eX_then_ret ?_
          refine eX_then_ret ?_
          have hq : (some false : Option ((Bool))) = some _ := hm2
          replace hq := someE hq
          subst hq
          refine eX_ret (vs := [.bool (false)]) [.tmp 4] (by rfl) ⟨by (show lkE _ _ _ = _); kernel_rfl, trivial⟩ ?_
          exact ⟨rfl, hB⟩
         ·have hm := condF hb8 hm
          rewrite [hb8]
          refine wH_take [7, 8] [8, 7, 6, 5, 4, 3, 2, 1, 0] [(89, .int .i64 (x5)), (88, .slice A4 (y3.1).length cap4)] (by kernel_rfl) (qT (qT (qT (qB (qT (qL (qB (qT (qT qZ))))))))) (by kernel_rfl) ?_
          obtain ⟨x7, hx5, hm⟩ := bindE hm
          refine wH_idx (i := 9) (d := 90) (T := 26) (A := A4) (n := (y3.1).length) (cap := cap4) (kd := .i64) (m := x5) (by kernel_rfl) (qT (qT (qT (qB (qT (qL (qB (qT (qT qZ))))))))) (by kernel_rfl) (by kernel_rfl) sl26 ((F16.slr encI_ok).is hx5) ?_
          obtain ⟨A6, cap6, hc10, F19, K2⟩ := OwR.row Z3 encI_ok hx5
          have G5 := low_inr G2
          have Dm2 := (F16.dj).symm
          refine wH_load1 (i := 10) (d := 91) (T := 32) (ad := (elA A4 1 (x5) 0)) (v := .slice A6 (x7).length cap6) (by kernel_rfl) (qT (qT (qT (qB (qT (qL (qB (qT (qT qZ))))))))) (by kernel_rfl) (by kernel_rfl) vt32 (fun W hW => hW.keep hc10) ?_
          obtain ⟨x8, hx6, hm⟩ := bindE hm
          refine wH_idx (i := 11) (d := 92) (T := 32) (A := A6) (n := (x7).length) (cap := cap6) (kd := .i64) (m := 0) (by kernel_rfl) (qT (qT (qT (qB (qT (qL (qB (qT (qT qZ))))))))) (by kernel_rfl) (by kernel_rfl) sl32 (F19.is hx6) ?_
          refine wH_load1 (i := 12) (d := 93) (T := 2) (ad := (elA A6 1 (0) 0)) (v := .int .i64 (x8)) (by kernel_rfl) (qT (qT (qT (qB (qT (qL (qB (qT (qT qZ))))))))) (by kernel_rfl) (by kernel_rfl) vt2 (fun W hW => Sl.cell (F19.chg hW Dj.nil) hx6 0 (by rfl)) ?_
          refine wH_take [13, 14, 15] [15, 14, 13, 12, 11, 10, 9, 8, 7, 6, 5, 4, 3, 2, 1, 0] [(96, .bool (decide (x8 < 0))), (95, .bool (decide (x8 < 0))), (94, .bool (decide (x8 < 0)))] (by kernel_rfl) (qT (qT (qT (qB (qT (qL (qB (qT (qT qZ))))))))) (by kernel_rfl) ?_
          refine wH_bool (decide (x8 < 0)) (fun hb9 => ?_) (fun hb9 => ?_)
          ·have hm := condT hb9 hm
           rewrite [hb9]
           refine wH_take [16, 17, 18, 19, 20, 21, 22, 23, 24, 25, 26, 27, 28, 29, 30, 31, 32, 33, 34, 35, 36, 37] [37, 36, 35, 34, 33, 32, 31, 30, 29, 28, 27, 26, 25, 24, 23, 22, 21, 20, 19, 18, 17, 16, 15, 14, 13, 12, 11, 10, 9, 8, 7, 6, 5, 4, 3, 2, 1, 0] [(118, undef), (117, undef), (116, undef), (115, undef), (114, undef), (113, undef), (112, undef), (111, .bool (true)), (110, .bool (true)), (109, undef), (108, undef), (107, undef), (106, undef), (105, undef), (104, undef), (103, undef), (102, undef), (101, undef), (100, undef), (99, undef), (98, undef), (97, undef)] (by kernel_rfl) (qT (qT (qT (qB (qT (qL (qB (qT (qT qZ))))))))) (by kernel_rfl) ?_
           refine wH_done (by kernel_rfl) ?_
           refine eX_tail ?_
           refine wS_pure 2 [(120, .bool (true)), (119, undef)] (by kernel_rfl) ?_
           refine wS_end (by rfl) ?_
           refine eX_then ?_
           refine cW_prune [(1, .slice A1 (l1).length cap1), (5, .slice A3 (y2).length cap3), (6, .int .i64 (((y2).length : Int))), (7, .slice A4 (y3.1).length cap4), (8, .int .i64 (y3.2.1)), (10, .int .i64 (y4.1)), (12, .slice (some ⟨b1, 0, none⟩) (l5).length (Int.toNat (((y2).length : Int)))), (14, .int .i64 (x4)), (15, .int .i64 (x5)), (120, .bool (true))] (by kernel_rfl) (by kernel_rfl) (fun a7 => ?_)
           refine cW_cond_t (by kernel_rfl) ?_
           refine cW_seq ?_
           refine cW_region ?_
           refine wS_pure 1 [(4, .bool (false))] (by kernel_rfl) ?_
           refine wS_end (by rfl) ?_
           refine eX_then ?_
           refine cW_ret ?_
           refine eX_then_ret ?_
           refine eX_block_ret ?_
           refine eX_then_ret ?_
           have hq : (some (Ctl.out (Sum.inr false)) : Option (Ctl (Int × Int × (List (Int))) (Sum (Int) ((Bool))))) = some _ := hm
           replace hq := someE hq
           subst hq
           refine eX_outR hx3 (fun hr => ?_)
           subst hr
           refine eX_block_ret ?_
           refine eX_then_ret ?_
           refine eX_then_ret ?_
           have hq : (some false : Option ((Bool))) = some _ := hm2
           replace hq := someE hq
           subst hq
           refine eX_ret (vs := [.bool (false)]) [.tmp 4] (by rfl) ⟨by (show lkE _ _ _ = _); kernel_rfl, trivial⟩ ?_
           exact ⟨rfl, hB⟩
          ·have hm := condF hb9 hm
           rewrite [hb9]
           refine wH_take [16, 17] [17, 16, 15, 14, 13, 12, 11, 10, 9, 8, 7, 6, 5, 4, 3, 2, 1, 0] [(98, .int .i64 (x5)), (97, .slice A4 (y3.1).length cap4)] (by kernel_rfl) (qT (qT (qT (qB (qT (qL (qB (qT (qT qZ))))))))) (by kernel_rfl) ?_
           obtain ⟨x9, hx7, hm⟩ := bindE hm
           refine wH_idx (i := 18) (d := 99) (T := 26) (A := A4) (n := (y3.1).length) (cap := cap4) (kd := .i64) (m := x5) (by kernel_rfl) (qT (qT (qT (qB (qT (qL (qB (qT (qT qZ))))))))) (by kernel_rfl) (by kernel_rfl) sl26 ((F16.slr encI_ok).is hx7) ?_
           obtain ⟨A7, cap7, hc11, F20, K3⟩ := OwR.row Z3 encI_ok hx7
           have G6 := low_inr G2
           have Dm3 := (F16.dj).symm
           refine wH_load1 (i := 19) (d := 100) (T := 32) (ad := (elA A4 1 (x5) 0)) (v := .slice A7 (x9).length cap7) (by kernel_rfl) (qT (qT (qT (qB (qT (qL (qB (qT (qT qZ))))))))) (by kernel_rfl) (by kernel_rfl) vt32 (fun W hW => hW.keep hc11) ?_
           obtain ⟨x10, hx8, hm⟩ := bindE hm
           refine wH_idx (i := 20) (d := 101) (T := 32) (A := A7) (n := (x9).length) (cap := cap7) (kd := .i64) (m := 0) (by kernel_rfl) (qT (qT (qT (qB (qT (qL (qB (qT (qT qZ))))))))) (by kernel_rfl) (by kernel_rfl) sl32 (F20.is hx8) ?_
           refine wH_load1 (i := 21) (d := 102) (T := 2) (ad := (elA A7 1 (0) 0)) (v := .int .i64 (x10)) (by kernel_rfl) (qT (qT (qT (qB (qT (qL (qB (qT (qT qZ))))))))) (by kernel_rfl) (by kernel_rfl) vt2 (fun W hW => Sl.cell (F20.chg hW Dj.nil) hx8 0 (by rfl)) ?_
           refine wH_take [22, 23] [23, 22, 21, 20, 19, 18, 17, 16, 15, 14, 13, 12, 11, 10, 9, 8, 7, 6, 5, 4, 3, 2, 1, 0] [(104, .int .i64 (x5)), (103, .slice A4 (y3.1).length cap4)] (by kernel_rfl) (qT (qT (qT (qB (qT (qL (qB (qT (qT qZ))))))))) (by kernel_rfl) ?_
           obtain ⟨x11, hx9, hm⟩ := bindE hm
           refine wH_idx (i := 24) (d := 105) (T := 26) (A := A4) (n := (y3.1).length) (cap := cap4) (kd := .i64) (m := x5) (by kernel_rfl) (qT (qT (qT (qB (qT (qL (qB (qT (qT qZ))))))))) (by kernel_rfl) (by kernel_rfl) sl26 ((F16.slr encI_ok).is hx9) ?_
           obtain ⟨A8, cap8, hc12, F21, K4⟩ := OwR.row Z3 encI_ok hx9
           have G7 := low_inr G2
           have Dm4 := (F16.dj).symm
           refine wH_load1 (i := 25) (d := 106) (T := 32) (ad := (elA A4 1 (x5) 0)) (v := .slice A8 (x11).length cap8) (by kernel_rfl) (qT (qT (qT (qB (qT (qL (qB (qT (qT qZ))))))))) (by kernel_rfl) (by kernel_rfl) vt32 (fun W hW => hW.keep hc12) ?_
           obtain ⟨x12, hx10, hm⟩ := bindE hm
           refine wH_idx (i := 26) (d := 107) (T := 32) (A := A8) (n := (x11).length) (cap := cap8) (kd := .i64) (m := 1) (by kernel_rfl) (qT (qT (qT (qB (qT (qL (qB (qT (qT qZ))))))))) (by kernel_rfl) (by kernel_rfl) sl32 (F21.is hx10) ?_
           refine wH_load1 (i := 27) (d := 108) (T := 2) (ad := (elA A8 1 (1) 0)) (v := .int .i64 (x12)) (by kernel_rfl) (qT (qT (qT (qB (qT (qL (qB (qT (qT qZ))))))))) (by kernel_rfl) (by kernel_rfl) vt2 (fun W hW => Sl.cell (F21.chg hW Dj.nil) hx10 0 (by rfl)) ?_
           refine wH_take [28, 29, 30] [30, 29, 28, 27, 26, 25, 24, 23, 22, 21, 20, 19, 18, 17, 16, 15, 14, 13, 12, 11, 10, 9, 8, 7, 6, 5, 4, 3, 2, 1, 0] [(111, .bool (decide (x10 ≥ x12))), (110, .bool (decide (x10 ≥ x12))), (109, .bool (decide (x10 ≥ x12)))] (by kernel_rfl) (qT (qT (qT (qB (qT (qL (qB (qT (qT qZ))))))))) (by kernel_rfl) ?_
           refine wH_bool (decide (x10 ≥ x12)) (fun hb10 => ?_) (fun hb10 => ?_)
           ·have hm := condT hb10 hm
            rewrite [hb10]
            refine wH_take [31, 32, 33, 34, 35, 36, 37] [37, 36, 35, 34, 33, 32, 31, 30, 29, 28, 27, 26, 25, 24, 23, 22, 21, 20, 19, 18, 17, 16, 15, 14, 13, 12, 11, 10, 9, 8, 7, 6, 5, 4, 3, 2, 1, 0] [(118, undef), (117, undef), (116, undef), (115, undef), (114, undef), (113, undef), (112, undef)] (by kernel_rfl) (qT (qT (qT (qB (qT (qL (qB (qT (qT qZ))))))))) (by kernel_rfl) ?_
            refine wH_done (by kernel_rfl) ?_
            refine eX_tail ?_
            refine wS_pure 2 [(120, .bool (true)), (119, undef)] (by kernel_rfl) ?_
            refine wS_end (by rfl) ?_
            refine eX_then ?_
            refine cW_prune [(1, .slice A1 (l1).length cap1), (5, .slice A3 (y2).length cap3), (6, .int .i64 (((y2).length : Int))), (7, .slice A4 (y3.1).length cap4), (8, .int .i64 (y3.2.1)), (10, .int .i64 (y4.1)), (12, .slice (some ⟨b1, 0, none⟩) (l5).length (Int.toNat (((y2).length : Int)))), (14, .int .i64 (x4)), (15, .int .i64 (x5)), (120, .bool (true))] (by kernel_rfl) (by kernel_rfl) (fun a8 => ?_)
            refine cW_cond_t (by kernel_rfl) ?_
            refine cW_seq ?_
            refine cW_region ?_
            refine wS_pure 1 [(4, .bool (false))] (by kernel_rfl) ?_
            refine wS_end (by rfl) ?_
            refine eX_then ?_
            refine cW_ret ?_
            refine eX_then_ret ?_
            refine eX_block_ret ?_
            refine eX_then_ret ?_
            have hq : (some (Ctl.out (Sum.inr false)) : Option (Ctl (Int × Int × (List (Int))) (Sum (Int) ((Bool))))) = some _ := hm
            replace hq := someE hq
            subst hq
            refine eX_outR hx3 (fun hr => ?_)
            subst hr
            refine eX_block_ret ?_
            refine eX_then_ret ?_
            refine eX_then_ret ?_
            have hq : (some false : Option ((Bool))) = some _ := hm2
            replace hq := someE hq
            subst hq
            refine eX_ret (vs := [.bool (false)]) [.tmp 4] (by rfl) ⟨by (show lkE _ _ _ = _); kernel_rfl, trivial⟩ ?_
            exact ⟨rfl, hB⟩
           ·have hm := condF hb10 hm
            rewrite [hb10]
            refine wH_take [31, 32] [32, 31, 30, 29, 28, 27, 26, 25, 24, 23, 22, 21, 20, 19, 18, 17, 16, 15, 14, 13, 12, 11, 10, 9, 8, 7, 6, 5, 4, 3, 2, 1, 0] [(113, .int .i64 (x5)), (112, .slice A4 (y3.1).length cap4)] (by kernel_rfl) (qT (qT (qT (qB (qT (qL (qB (qT (qT qZ))))))))) (by kernel_rfl) ?_
            obtain ⟨x13, hx11, hm⟩ := bindE hm
            refine wH_idx (i := 33) (d := 114) (T := 26) (A := A4) (n := (y3.1).length) (cap := cap4) (kd := .i64) (m := x5) (by kernel_rfl) (qT (qT (qT (qB (qT (qL (qB (qT (qT qZ))))))))) (by kernel_rfl) (by kernel_rfl) sl26 ((F16.slr encI_ok).is hx11) ?_
            obtain ⟨A9, cap9, hc13, F22, K5⟩ := OwR.row Z3 encI_ok hx11
            have G8 := low_inr G2
            have Dm5 := (F16.dj).symm
            refine wH_load1 (i := 34) (d := 115) (T := 32) (ad := (elA A4 1 (x5) 0)) (v := .slice A9 (x13).length cap9) (by kernel_rfl) (qT (qT (qT (qB (qT (qL (qB (qT (qT qZ))))))))) (by kernel_rfl) (by kernel_rfl) vt32 (fun W hW => hW.keep hc13) ?_
            obtain ⟨x14, hx12, hm⟩ := bindE hm
            refine wH_idx (i := 35) (d := 116) (T := 32) (A := A9) (n := (x13).length) (cap := cap9) (kd := .i64) (m := 1) (by kernel_rfl) (qT (qT (qT (qB (qT (qL (qB (qT (qT qZ))))))))) (by kernel_rfl) (by kernel_rfl) sl32 (F22.is hx12) ?_
            refine wH_load1 (i := 36) (d := 117) (T := 2) (ad := (elA A9 1 (1) 0)) (v := .int .i64 (x14)) (by kernel_rfl) (qT (qT (qT (qB (qT (qL (qB (qT (qT qZ))))))))) (by kernel_rfl) (by kernel_rfl) vt2 (fun W hW => Sl.cell (F22.chg hW Dj.nil) hx12 0 (by rfl)) ?_
            refine wH_take [37] [37, 36, 35, 34, 33, 32, 31, 30, 29, 28, 27, 26, 25, 24, 23, 22, 21, 20, 19, 18, 17, 16, 15, 14, 13, 12, 11, 10, 9, 8, 7, 6, 5, 4, 3, 2, 1, 0] [(118, .int .i64 (((y2).length : Int)))] (by kernel_rfl) (qT (qT (qT (qB (qT (qL (qB (qT (qT qZ))))))))) (by kernel_rfl) ?_
            refine wH_done (by kernel_rfl) ?_
            refine eX_tail ?_
            refine wS_pure 2 [(120, .bool (decide (x14 ≥ (((y2).length : Int))))), (119, .bool (decide (x14 ≥ (((y2).length : Int)))))] (by kernel_rfl) ?_
            refine wS_end (by rfl) ?_
            refine eX_then ?_
            refine cW_prune [(1, .slice A1 (l1).length cap1), (5, .slice A3 (y2).length cap3), (6, .int .i64 (((y2).length : Int))), (7, .slice A4 (y3.1).length cap4), (8, .int .i64 (y3.2.1)), (10, .int .i64 (y4.1)), (12, .slice (some ⟨b1, 0, none⟩) (l5).length (Int.toNat (((y2).length : Int)))), (14, .int .i64 (x4)), (15, .int .i64 (x5)), (120, .bool (decide (x14 ≥ (((y2).length : Int)))))] (by kernel_rfl) (by kernel_rfl) (fun a9 => ?_)
            refine cW_cond (t := decide (x14 ≥ (((y2).length : Int)))) (by kernel_rfl) (fun hb11 => ?_) (fun hb11 => ?_)
            ·have hm := condT hb11 hm
             refine cW_seq ?_
             refine cW_region ?_
             refine wS_pure 1 [(4, .bool (false))] (by kernel_rfl) ?_
             refine wS_end (by rfl) ?_
             refine eX_then ?_
             refine cW_ret ?_
             refine eX_then_ret ?_
             refine eX_block_ret ?_
             refine eX_then_ret ?_
             have hq : (some (Ctl.out (Sum.inr false)) : Option (Ctl (Int × Int × (List (Int))) (Sum (Int) ((Bool))))) = some _ := hm
             replace hq := someE hq
             subst hq
             refine eX_outR hx3 (fun hr => ?_)
             subst hr
             refine eX_block_ret ?_
             refine eX_then_ret ?_
             refine eX_then_ret ?_
             have hq : (some false : Option ((Bool))) = some _ := hm2
             replace hq := someE hq
             subst hq
             refine eX_ret (vs := [.bool (false)]) [.tmp 4] (by rfl) ⟨by (show lkE _ _ _ = _); kernel_rfl, trivial⟩ ?_
             exact ⟨rfl, hB⟩
            ·have hm := condF hb11 hm
             refine cW_skip ?_
             refine eX_then ?_
             refine cW_seq ?_
             refine cW_region ?_
             refine wS_pure 3 [(123, .int .i64 (x5)), (122, .slice A4 (y3.1).length cap4), (121, .slice (some ⟨b1, 0, none⟩) (l5).length (Int.toNat (((y2).length : Int))))] (by kernel_rfl) ?_
             obtain ⟨x15, hx13, hm⟩ := bindE hm
             refine wS_idx (d := 124) (T := 26) (A := A4) (n := (y3.1).length) (cap := cap4) (kd := .i64) (m := x5) (by kernel_rfl) sl26 ((F16.slr encI_ok).is hx13) ?_
             obtain ⟨A10, cap10, hc14, F23, K6⟩ := OwR.row F16 encI_ok hx13
             have G9 := low_inr G2
             have Dm6 := (F16.dj).symm
             refine wS_load1 (d := 125) (T := 32) (ad := (elA A4 1 (x5) 0)) (v := .slice A10 (x15).length cap10) (by kernel_rfl) vt32 hc14 ?_
             obtain ⟨x16, hx14, hm⟩ := bindE hm
             refine wS_idx (d := 126) (T := 32) (A := A10) (n := (x15).length) (cap := cap10) (kd := .i64) (m := 0) (by kernel_rfl) sl32 (F23.is hx14) ?_
             refine wS_load1 (d := 127) (T := 2) (ad := (elA A10 1 (0) 0)) (v := .int .i64 (x16)) (by kernel_rfl) vt2 (Sl.cell F23 hx14 0 (by rfl)) ?_
             obtain ⟨x17, hx15, hm⟩ := bindE hm
             refine wS_idx (d := 128) (T := 32) (A := (some ⟨b1, 0, none⟩)) (n := (l5).length) (cap := (Int.toNat (((y2).length : Int)))) (kd := .i64) (m := x16) (by kernel_rfl) sl32 ((F17.sl encI_ok).is hx15) ?_
             refine wS_load1 (d := 129) (T := 2) (ad := (elA (some ⟨b1, 0, none⟩) 1 (x16) 0)) (v := .int .i64 (x17)) (by kernel_rfl) vt2 (Sl.cell (F17.sl encI_ok) hx15 0 (by rfl)) ?_
             refine wS_pure 1 [(16, .int .i64 (x17))] (by kernel_rfl) ?_
             refine wS_end (by rfl) ?_
             refine eX_then ?_
             refine cW_seq ?_
             refine cW_region ?_
             refine wS_pure 3 [(132, .int .i64 (x5)), (131, .slice A4 (y3.1).length cap4), (130, .slice (some ⟨b1, 0, none⟩) (l5).length (Int.toNat (((y2).length : Int))))] (by kernel_rfl) ?_
             obtain ⟨x18, hx16, hm⟩ := bindE hm
             refine wS_idx (d := 133) (T := 26) (A := A4) (n := (y3.1).length) (cap := cap4) (kd := .i64) (m := x5) (by kernel_rfl) sl26 ((F16.slr encI_ok).is hx16) ?_
             obtain ⟨A11, cap11, hc15, F24, K7⟩ := OwR.row F16 encI_ok hx16
             have G10 := low_inr G2
             have Dm7 := (F16.dj).symm
             refine wS_load1 (d := 134) (T := 32) (ad := (elA A4 1 (x5) 0)) (v := .slice A11 (x18).length cap11) (by kernel_rfl) vt32 hc15 ?_
             obtain ⟨x19, hx17, hm⟩ := bindE hm
             refine wS_idx (d := 135) (T := 32) (A := A11) (n := (x18).length) (cap := cap11) (kd := .i64) (m := 1) (by kernel_rfl) sl32 (F24.is hx17) ?_
             refine wS_load1 (d := 136) (T := 2) (ad := (elA A11 1 (1) 0)) (v := .int .i64 (x19)) (by kernel_rfl) vt2 (Sl.cell F24 hx17 0 (by rfl)) ?_
             obtain ⟨x20, hx18, hm⟩ := bindE hm
             refine wS_idx (d := 137) (T := 32) (A := (some ⟨b1, 0, none⟩)) (n := (l5).length) (cap := (Int.toNat (((y2).length : Int)))) (kd := .i64) (m := x19) (by kernel_rfl) sl32 ((F17.sl encI_ok).is hx18) ?_
             refine wS_load1 (d := 138) (T := 2) (ad := (elA (some ⟨b1, 0, none⟩) 1 (x19) 0)) (v := .int .i64 (x20)) (by kernel_rfl) vt2 (Sl.cell (F17.sl encI_ok) hx18 0 (by rfl)) ?_
             refine wS_pure 1 [(17, .int .i64 (x20))] (by kernel_rfl) ?_
             refine wS_end (by rfl) ?_
             refine eX_then ?_
             refine cW_prune [(1, .slice A1 (l1).length cap1), (5, .slice A3 (y2).length cap3), (6, .int .i64 (((y2).length : Int))), (7, .slice A4 (y3.1).length cap4), (8, .int .i64 (y3.2.1)), (10, .int .i64 (y4.1)), (12, .slice (some ⟨b1, 0, none⟩) (l5).length (Int.toNat (((y2).length : Int)))), (14, .int .i64 (x4)), (15, .int .i64 (x5)), (16, .int .i64 (x17)), (17, .int .i64 (x20))] (by kernel_rfl) (by kernel_rfl) (fun a10 => ?_)
             refine cW_seq ?_
             refine cW_seq ?_
             refine cW_region ?_
             refine wS_pure 3 [(141, .bool (x17 == x20)), (140, .int .i64 (x20)), (139, .int .i64 (x17))] (by kernel_rfl) ?_
             refine wS_end (by rfl) ?_
             refine eX_then ?_
             refine cW_cond (t := x17 == x20) (by kernel_rfl) (fun hb12 => ?_) (fun hb12 => ?_)
             ·have hm := condT hb12 hm
              refine cW_seq ?_
              refine cW_region ?_
              refine wS_pure 1 [(4, .bool (false))] (by kernel_rfl) ?_
              refine wS_end (by rfl) ?_
              refine eX_then ?_
              refine cW_ret ?_
              refine eX_then_ret ?_
              refine eX_block_ret ?_
              refine eX_then_ret ?_
              have hq : (some (Ctl.out (Sum.inr false)) : Option (Ctl (Int × Int × (List (Int))) (Sum (Int) ((Bool))))) = some _ := hm
              replace hq := someE hq
              subst hq
              refine eX_outR hx3 (fun hr => ?_)
              subst hr
              refine eX_block_ret ?_
              refine eX_then_ret ?_
              refine eX_then_ret ?_
              have hq : (some false : Option ((Bool))) = some _ := hm2
              replace hq := someE hq
              subst hq
              refine eX_ret (vs := [.bool (false)]) [.tmp 4] (by rfl) ⟨by (show lkE _ _ _ = _); kernel_rfl, trivial⟩ ?_
              exact ⟨rfl, hB⟩
             ·have hm := condF hb12 hm
              refine cW_skip ?_
              refine eX_then ?_
              refine cW_seq ?_
              refine cW_seq ?_
              refine cW_region ?_
              refine wS_pure 1 [(18, .int .i64 (0))] (by kernel_rfl) ?_
              refine wS_end (by rfl) ?_
              refine eX_then ?_
              obtain ⟨r3, hr4, hm⟩ := bindE hm
              have hm3 := hm
              refine cW_cut (fun a' w' => ∃ l6 : List (Int), l6 = r3 ∧ Fr 257 [(1, .slice A1 (l1).length cap1), (5, .slice A3 (y2).length cap3), (6, .int .i64 (((y2).length : Int))), (7, .slice A4 (y3.1).length cap4), (8, .int .i64 (y3.2.1)), (10, .int .i64 (y4.1)), (12, .slice (some ⟨b1, 0, none⟩) (l6).length (Int.toNat (((y2).length : Int)))), (14, .int .i64 (x4)), (15, .int .i64 (x5))] a' ∧ Sl 1 encU w' fp1 A1 l1 ∧ Ow 2 encII 35 w' fp2 A3 cap3 y2 ∧ OwR 1 encI 32 2 w' fp3 fr1 A4 cap4 y3.1 ∧ Ow 1 encI 2 w' [b1] (some ⟨b1, 0, none⟩) (Int.toNat (((y2).length : Int))) l6 ∧ Chg [] w0 w' ∧ w0.heap.size ≤ w'.heap.size) ?_ ?_
              ·refine cW_block ?_
               refine cW_loop _ (fun (s3 : Int × (List (Int))) a' w' => ∃ x21 : Int, ∃ l7 : List (Int), (x21, l7) = s3 ∧ Fr 257 [(1, .slice A1 (l1).length cap1), (5, .slice A3 (y2).length cap3), (6, .int .i64 (((y2).length : Int))), (7, .slice A4 (y3.1).length cap4), (8, .int .i64 (y3.2.1)), (10, .int .i64 (y4.1)), (12, .slice (some ⟨b1, 0, none⟩) (l7).length (Int.toNat (((y2).length : Int)))), (14, .int .i64 (x4)), (15, .int .i64 (x5)), (16, .int .i64 (x17)), (17, .int .i64 (x20)), (18, .int .i64 (x21))] a' ∧ Sl 1 encU w' fp1 A1 l1 ∧ Ow 2 encII 35 w' fp2 A3 cap3 y2 ∧ OwR 1 encI 32 2 w' fp3 fr1 A4 cap4 y3.1 ∧ Ow 1 encI 2 w' [b1] (some ⟨b1, 0, none⟩) (Int.toNat (((y2).length : Int))) l7 ∧ Chg [] w0 w' ∧ w0.heap.size ≤ w'.heap.size) hr4 (fun hst => ⟨0, l5, rfl, Fr.of hst (by kernel_rfl), F14, F15, F16, F17, hB, hZ⟩) ?_
               rintro _ c3 a' w12 ⟨x21, l7, rfl, hF4, F25, F26, F27, F28, hB, hZ⟩ hx19
               refine Fr.goOn hF4 (by kernel_rfl) ?_
               have hm := hx19
               unfold m_laws_FnTrees_s5 at hm
               refine cW_seq ?_
               refine cW_seq ?_
               refine cW_region ?_
               refine wS_pure 3 [(144, .bool (decide (x21 < (((y2).length : Int))))), (143, .int .i64 (((y2).length : Int))), (142, .int .i64 (x21))] (by kernel_rfl) ?_
               refine wS_end (by rfl) ?_
               refine eX_then ?_
               refine cW_cond (t := decide (x21 < (((y2).length : Int)))) (by kernel_rfl) (fun hb13 => ?_) (fun hb13 => ?_)
               ·have hm := condT hb13 hm
                refine cW_skip ?_
                refine eX_then ?_
                refine cW_seq ?_
                refine cW_block ?_
                obtain ⟨s4, hs1, hm⟩ := bindE hm
                refine cW_cut (fun a' w' => ∃ l8 : List (Int), l8 = s4 ∧ Fr 257 [(1, .slice A1 (l1).length cap1), (5, .slice A3 (y2).length cap3), (6, .int .i64 (((y2).length : Int))), (7, .slice A4 (y3.1).length cap4), (8, .int .i64 (y3.2.1)), (10, .int .i64 (y4.1)), (12, .slice (some ⟨b1, 0, none⟩) (l8).length (Int.toNat (((y2).length : Int)))), (14, .int .i64 (x4)), (15, .int .i64 (x5)), (16, .int .i64 (x17)), (17, .int .i64 (x20)), (18, .int .i64 (x21))] a' ∧ Sl 1 encU w' fp1 A1 l1 ∧ Ow 2 encII 35 w' fp2 A3 cap3 y2 ∧ OwR 1 encI 32 2 w' fp3 fr1 A4 cap4 y3.1 ∧ Ow 1 encI 2 w' [b1] (some ⟨b1, 0, none⟩) (Int.toNat (((y2).length : Int))) l8 ∧ Chg [] w0 w' ∧ w0.heap.size ≤ w'.heap.size) ?_ ?_
                ·have hm := hs1
                 refine cW_seq ?_
                 refine cW_region ?_
                 refine wS_pure 2 [(148, .int .i64 (x21)), (147, .slice (some ⟨b1, 0, none⟩) (l7).length (Int.toNat (((y2).length : Int))))] (by kernel_rfl) ?_
                 obtain ⟨x22, hx20, hm⟩ := bindE hm
                 refine wS_idx (d := 149) (T := 32) (A := (some ⟨b1, 0, none⟩)) (n := (l7).length) (cap := (Int.toNat (((y2).length : Int)))) (kd := .i64) (m := x21) (by kernel_rfl) sl32 ((F28.sl encI_ok).is hx20) ?_
                 refine wS_load1 (d := 150) (T := 2) (ad := (elA (some ⟨b1, 0, none⟩) 1 (x21) 0)) (v := .int .i64 (x22)) (by kernel_rfl) vt2 (Sl.cell (F28.sl encI_ok) hx20 0 (by rfl)) ?_
                 refine wS_pure 2 [(152, .bool (x22 == x20)), (151, .int .i64 (x20))] (by kernel_rfl) ?_
                 refine wS_end (by rfl) ?_
                 refine eX_then ?_
                 refine cW_cond (t := x22 == x20) (by kernel_rfl) (fun hb14 => ?_) (fun hb14 => ?_)
                 ·have hm := condT hb14 hm
                  refine cW_region ?_
                  refine wS_pure 3 [(155, .int .i64 (x17)), (154, .int .i64 (x21)), (153, .slice (some ⟨b1, 0, none⟩) (l7).length (Int.toNat (((y2).length : Int))))] (by kernel_rfl) ?_
                  obtain ⟨x23, hx21, hm⟩ := bindE hm
                  refine wS_idx (d := 156) (T := 32) (A := (some ⟨b1, 0, none⟩)) (n := (l7).length) (cap := (Int.toNat (((y2).length : Int)))) (kd := .i64) (m := x21) (by kernel_rfl) sl32 ((F28.sl encI_ok).is hx21) ?_
                  refine wS_storeEl (x := x23) x17 (T := 2) (U := 2) (cap := (Int.toNat (((y2).length : Int)))) (j := 0) (A := (some ⟨b1, 0, none⟩)) (v := .int .i64 (x17)) (vs := [.int .i64 (x17)]) (m := x21) (by kernel_rfl) (by rfl) sz2 (by rfl) encI_ok F28 hx21 (by simp only [List.length_cons, List.length_nil]; omega) (by rfl) ?_
                  intro w13 F29 hc16
                  replace F25 := F25.chg hc16 (Dj.of L1 G3)
                  replace F26 := F26.chg hc16 D2
                  replace F27 := F27.chg hc16 D3
                  replace hB := hB.inS hc16 (inLow G3)
                  replace hZ := Nat.le_trans hZ hc16.size
                  clear F28
                  rewrite [show (l7).length = (l7.set (Int.toNat x21) x17).length from (List.length_set ..).symm]
                  refine wS_end (by rfl) ?_
                  have hq : (some (l7.set (Int.toNat x21) x17) : Option ((List (Int)))) = some _ := hm
                  replace hq := someE hq
                  subst hq
                  exact eX_J (fun hst => ⟨l7.set (Int.toNat x21) x17, rfl, Fr.of hst (by kernel_rfl), F25, F26, F27, F29, hB, hZ⟩)
                 ·have hm := condF hb14 hm
                  refine cW_skip ?_
                  have hq : (some l7 : Option ((List (Int)))) = some _ := hm
                  replace hq := someE hq
                  subst hq
                  exact eX_J (fun hst => ⟨l7, rfl, Fr.of hst (by kernel_rfl), F25, F26, F27, F28, hB, hZ⟩)
                ·rintro a' w14 ⟨l8, hJ, hF5, F30, F31, F32, F33, hB, hZ⟩
                 subst hJ
                 refine Fr.goX hF5 (by kernel_rfl) ?_
                 refine eX_block ?_
                 refine eX_then ?_
                 refine cW_region ?_
                 refine wS_pure 3 [(18, .int .i64 (wr (x21 + 1))), (146, .int .i64 (wr (x21 + 1))), (145, .int .i64 (x21))] (by kernel_rfl) ?_
                 refine wS_end (by rfl) ?_
                 have hq : (some (Ctl.next ((wr (x21 + 1), l8))) : Option (Ctl (Int × (List (Int))) ((List (Int))))) = some _ := hm
                 replace hq := someE hq
                 subst hq
                 exact eX_next hx19 (fun hst => ⟨wr (x21 + 1), l8, rfl, Fr.of hst (by kernel_rfl), F30, F31, F32, F33, hB, hZ⟩)
               ·have hm := condF hb13 hm
                refine cW_exit ?_
                refine eX_then_exit ?_
                have hq : (some (Ctl.out l7) : Option (Ctl (Int × (List (Int))) ((List (Int))))) = some _ := hm
                replace hq := someE hq
                subst hq
                refine eX_outX hx19 (fun hr5 => ?_)
                replace hr5 := hr5.symm
                subst hr5
                refine eX_block_hit ?_
                exact eX_J (fun hst => ⟨l7, rfl, Fr.of hst (by kernel_rfl), F25, F26, F27, F28, hB, hZ⟩)
              ·rintro a' w15 ⟨l6, hJ, hF6, F34, F35, F36, F37, hB, hZ⟩
               subst hJ
               refine Fr.goX hF6 (by kernel_rfl) ?_
               refine eX_then ?_
               refine cW_drawnTail [] 20 (by kernel_rfl) (by kernel_rfl) (fun w16 hc17 => ?_)
               replace F34 := F34.chg hc17 Dj.nil
               replace F35 := F35.chg hc17 Dj.nil
               replace F36 := F36.chg hc17 Dj.nil
               replace F37 := F37.chg hc17 Dj.nil
               replace hB := hB.inS hc17 inNil
               replace hZ := Nat.le_trans hZ hc17.size
               have hS := Chg.refl [] w16
               have Z5 := F34
               have Z6 := F35
               have Z7 := F36
               have Z8 := F37
               refine wH_take [0, 1, 2, 3] [3, 2, 1, 0] [(160, .int .i64 (x5)), (159, .slice A4 (y3.1).length cap4), (158, .slice A3 (y2).length cap3), (157, .int .i64 (x4))] (by kernel_rfl) (qT (qB (qT (qL (qB (qT (qT qZ))))))) (by kernel_rfl) ?_
               obtain ⟨x24, hx22, hm⟩ := bindE hm
               refine wH_idx (i := 4) (d := 161) (T := 26) (A := A4) (n := (y3.1).length) (cap := cap4) (kd := .i64) (m := x5) (by kernel_rfl) (qT (qB (qT (qL (qB (qT (qT qZ))))))) (by kernel_rfl) (by kernel_rfl) sl26 ((F36.slr encI_ok).is hx22) ?_
               obtain ⟨A12, cap12, hc18, F38, K8⟩ := OwR.row Z7 encI_ok hx22
               have G11 := low_inr G2
               have Dm8 := (F36.dj).symm
               refine wH_load1 (i := 5) (d := 162) (T := 32) (ad := (elA A4 1 (x5) 0)) (v := .slice A12 (x24).length cap12) (by kernel_rfl) (qT (qB (qT (qL (qB (qT (qT qZ))))))) (by kernel_rfl) (by kernel_rfl) vt32 (fun W hW => hW.keep hc18) ?_
               obtain ⟨x25, hx23, hm⟩ := bindE hm
               refine wH_idx (i := 6) (d := 163) (T := 32) (A := A12) (n := (x24).length) (cap := cap12) (kd := .i64) (m := 0) (by kernel_rfl) (qT (qB (qT (qL (qB (qT (qT qZ))))))) (by kernel_rfl) (by kernel_rfl) sl32 (F38.is hx23) ?_
               refine wH_load1 (i := 7) (d := 164) (T := 2) (ad := (elA A12 1 (0) 0)) (v := .int .i64 (x25)) (by kernel_rfl) (qT (qB (qT (qL (qB (qT (qT qZ))))))) (by kernel_rfl) (by kernel_rfl) vt2 (fun W hW => Sl.cell (F38.chg hW Dj.nil) hx23 0 (by rfl)) ?_
               obtain ⟨x26, hx24, hm⟩ := bindE hm
               refine wH_idx (i := 8) (d := 165) (T := 24) (A := A3) (n := (y2).length) (cap := cap3) (kd := .i64) (m := x25) (by kernel_rfl) (qT (qB (qT (qL (qB (qT (qT qZ))))))) (by kernel_rfl) (by kernel_rfl) sl24 ((F35.sl encII_ok).is hx24) ?_
               refine wH_loadA (i := 9) (d := 166) (T := 35) (ad := (elA A3 2 (x25) 0)) (vs := [.int .i64 (x26.1), .int .i64 (x26.2)]) (by kernel_rfl) (qT (qB (qT (qL (qB (qT (qT qZ))))))) (by kernel_rfl) (by kernel_rfl) vt35 (fun W hW i u hu => Sl.cells_at ((Z6.chg hW Dj.nil).sl encII_ok) hx24 0 hu (by rfl)) ?_
               refine wH_take [10, 11, 12] [12, 11, 10, 9, 8, 7, 6, 5, 4, 3, 2, 1, 0] [(169, .int .i64 (x5)), (168, .slice A4 (y3.1).length cap4), (167, .slice A3 (y2).length cap3)] (by kernel_rfl) (qT (qB (qT (qL (qB (qT (qT qZ))))))) (by kernel_rfl) ?_
               obtain ⟨x27, hx25, hm⟩ := bindE hm
               refine wH_idx (i := 13) (d := 170) (T := 26) (A := A4) (n := (y3.1).length) (cap := cap4) (kd := .i64) (m := x5) (by kernel_rfl) (qT (qB (qT (qL (qB (qT (qT qZ))))))) (by kernel_rfl) (by kernel_rfl) sl26 ((F36.slr encI_ok).is hx25) ?_
               obtain ⟨A13, cap13, hc19, F39, K9⟩ := OwR.row Z7 encI_ok hx25
               have G12 := low_inr G2
               have Dm9 := (F36.dj).symm
               refine wH_load1 (i := 14) (d := 171) (T := 32) (ad := (elA A4 1 (x5) 0)) (v := .slice A13 (x27).length cap13) (by kernel_rfl) (qT (qB (qT (qL (qB (qT (qT qZ))))))) (by kernel_rfl) (by kernel_rfl) vt32 (fun W hW => hW.keep hc19) ?_
               obtain ⟨x28, hx26, hm⟩ := bindE hm
               refine wH_idx (i := 15) (d := 172) (T := 32) (A := A13) (n := (x27).length) (cap := cap13) (kd := .i64) (m := 1) (by kernel_rfl) (qT (qB (qT (qL (qB (qT (qT qZ))))))) (by kernel_rfl) (by kernel_rfl) sl32 (F39.is hx26) ?_
               refine wH_load1 (i := 16) (d := 173) (T := 2) (ad := (elA A13 1 (1) 0)) (v := .int .i64 (x28)) (by kernel_rfl) (qT (qB (qT (qL (qB (qT (qT qZ))))))) (by kernel_rfl) (by kernel_rfl) vt2 (fun W hW => Sl.cell (F39.chg hW Dj.nil) hx26 0 (by rfl)) ?_
               obtain ⟨x29, hx27, hm⟩ := bindE hm
               refine wH_idx (i := 17) (d := 174) (T := 24) (A := A3) (n := (y2).length) (cap := cap3) (kd := .i64) (m := x28) (by kernel_rfl) (qT (qB (qT (qL (qB (qT (qT qZ))))))) (by kernel_rfl) (by kernel_rfl) sl24 ((F35.sl encII_ok).is hx27) ?_
               refine wH_loadA (i := 18) (d := 175) (T := 35) (ad := (elA A3 2 (x28) 0)) (vs := [.int .i64 (x29.1), .int .i64 (x29.2)]) (by kernel_rfl) (qT (qB (qT (qL (qB (qT (qT qZ))))))) (by kernel_rfl) (by kernel_rfl) vt35 (fun W hW i u hu => Sl.cells_at ((Z6.chg hW Dj.nil).sl encII_ok) hx27 0 hu (by rfl)) ?_
               refine wH_all [19] (by rfl) (by kernel_rfl) (by simp) ⟨⟨by kernel_rfl, ?_⟩, trivial⟩
               obtain ⟨y6, hy6, hm⟩ := bindE hm
               refine wS_calls (d := 176) (f := 9) (vs := [.agg #[.int .i64 (x26.1), .int .i64 (x26.2)], .agg #[.int .i64 (x29.1), .int .i64 (x29.2)]]) (by kernel_rfl) ent9 (c_laws_b10Far hy6) ?_
               rintro _ w17 ⟨rfl, hc20⟩
               replace F34 := F34.chg hc20 Dj.nil
               replace F35 := F35.chg hc20 Dj.nil
               replace F36 := F36.chg hc20 Dj.nil
               replace F37 := F37.chg hc20 Dj.nil
               replace F38 := F38.chg hc20 Dj.nil
               replace F39 := F39.chg hc20 Dj.nil
               replace hB := hB.inS hc20 inNil
               have hSz := hS
               replace hS := hS.inS hc20 inNil
               replace hZ := Nat.le_trans hZ hc20.size
               refine ⟨.int .i64 (y6), rfl, ?_⟩
               refine wS_end (by kernel_rfl) ?_
               refine eX_KH hS ?_
               refine wH_done (by kernel_rfl) ?_
               refine eX_tail ?_
               refine wS_pure 2 [(14, .int .i64 (wr (x4 + y6))), (177, .int .i64 (wr (x4 + y6)))] (by kernel_rfl) ?_
               refine wS_end (by rfl) ?_
               refine eX_block ?_
               refine eX_then ?_
               refine cW_prune [(1, .slice A1 (l1).length cap1), (5, .slice A3 (y2).length cap3), (6, .int .i64 (((y2).length : Int))), (7, .slice A4 (y3.1).length cap4), (8, .int .i64 (y3.2.1)), (10, .int .i64 (y4.1)), (12, .slice (some ⟨b1, 0, none⟩) (l6).length (Int.toNat (((y2).length : Int)))), (14, .int .i64 (wr (x4 + y6))), (15, .int .i64 (x5))] (by kernel_rfl) (by kernel_rfl) (fun a11 => ?_)
               refine cW_region ?_
               refine wS_pure 3 [(15, .int .i64 (wr (x5 + 1))), (80, .int .i64 (wr (x5 + 1))), (79, .int .i64 (x5))] (by kernel_rfl) ?_
               refine wS_end (by rfl) ?_
               have hq : (some (Ctl.next ((wr (x4 + y6), wr (x5 + 1), l6))) : Option (Ctl (Int × Int × (List (Int))) (Sum (Int) ((Bool))))) = some _ := hm
               replace hq := someE hq
               subst hq
               exact eX_next hx3 (fun hst => ⟨wr (x4 + y6), wr (x5 + 1), l6, rfl, Fr.of hst (by kernel_rfl), F34, F35, F36, F37, hB, hZ⟩)
        ·have hm := condF hb7 hm
         refine cW_exit ?_
         refine eX_then_exit ?_
         have hq : (some (Ctl.out (Sum.inl x4)) : Option (Ctl (Int × Int × (List (Int))) (Sum (Int) ((Bool))))) = some _ := hm
         replace hq := someE hq
         subst hq
         refine eX_outX hx3 (fun hr6 => ?_)
         replace hr6 := hr6.symm
         subst hr6
         refine eX_block_hit ?_
         exact eX_J (fun hst => ⟨x4, rfl, Fr.of hst (by kernel_rfl), F14, F15, hB, hZ⟩)
       ·rintro a' w18 ⟨x3, hJ, hF7, F40, F41, hB, hZ⟩
        subst hJ
        refine Fr.goX hF7 (by kernel_rfl) ?_
        refine eX_then ?_
        refine cW_seq ?_
        refine cW_region ?_
        refine wS_pure 1 [(19, .int .i64 (0))] (by kernel_rfl) ?_
        refine wS_end (by rfl) ?_
        refine eX_then ?_
        refine cW_seq ?_
        refine cW_seq ?_
        refine cW_region ?_
        refine wS_pure 1 [(20, .int .i64 (1))] (by kernel_rfl) ?_
        refine wS_end (by rfl) ?_
        refine eX_then ?_
        obtain ⟨r4, hr7, hm⟩ := bindE hm
        have hm4 := hm
        refine cW_cut (fun a' w' => ∃ x30 : Int, x30 = r4 ∧ Fr 257 [(1, .slice A1 (l1).length cap1), (5, .slice A3 (y2).length cap3), (8, .int .i64 (y3.2.1)), (10, .int .i64 (y4.1)), (14, .int .i64 (x3)), (19, .int .i64 (x30))] a' ∧ Sl 1 encU w' fp1 A1 l1 ∧ Ow 2 encII 35 w' fp2 A3 cap3 y2 ∧ Chg [] w0 w' ∧ w0.heap.size ≤ w'.heap.size) ?_ ?_
        ·refine cW_block ?_
         refine cW_loop _ (fun (s5 : Int × Int) a' w' => ∃ x31 : Int, ∃ x32 : Int, (x31, x32) = s5 ∧ Fr 257 [(1, .slice A1 (l1).length cap1), (5, .slice A3 (y2).length cap3), (6, .int .i64 (((y2).length : Int))), (8, .int .i64 (y3.2.1)), (10, .int .i64 (y4.1)), (14, .int .i64 (x3)), (19, .int .i64 (x31)), (20, .int .i64 (x32))] a' ∧ Sl 1 encU w' fp1 A1 l1 ∧ Ow 2 encII 35 w' fp2 A3 cap3 y2 ∧ Chg [] w0 w' ∧ w0.heap.size ≤ w'.heap.size) hr7 (fun hst => ⟨0, 1, rfl, Fr.of hst (by kernel_rfl), F40, F41, hB, hZ⟩) ?_
         rintro _ c4 a' w19 ⟨x31, x32, rfl, hF8, F42, F43, hB, hZ⟩ hx28
         refine Fr.goOn hF8 (by kernel_rfl) ?_
         have hm := hx28
         unfold m_laws_FnTrees_s6 at hm
         refine cW_seq ?_
         refine cW_seq ?_
         refine cW_region ?_
         refine wS_pure 3 [(180, .bool (decide (x32 < (((y2).length : Int))))), (179, .int .i64 (((y2).length : Int))), (178, .int .i64 (x32))] (by kernel_rfl) ?_
         refine wS_end (by rfl) ?_
         refine eX_then ?_
         refine cW_cond (t := decide (x32 < (((y2).length : Int)))) (by kernel_rfl) (fun hb15 => ?_) (fun hb15 => ?_)
         ·have hm := condT hb15 hm
          refine cW_skip ?_
          refine eX_then ?_
          refine cW_seq ?_
          refine cW_block ?_
          refine cW_drawnTail [] 14 (by kernel_rfl) (by kernel_rfl) (fun w20 hc21 => ?_)
          replace F42 := F42.chg hc21 Dj.nil
          replace F43 := F43.chg hc21 Dj.nil
          replace hB := hB.inS hc21 inNil
          replace hZ := Nat.le_trans hZ hc21.size
          have hS := Chg.refl [] w20
          have Z9 := F42
          have Z10 := F43
          refine wH_take [0, 1, 2] [2, 1, 0] [(185, .int .i64 (x32)), (184, .slice A3 (y2).length cap3), (183, .int .i64 (x31))] (by kernel_rfl) (qT (qB (qT (qL (qB (qT (qT qZ))))))) (by kernel_rfl) ?_
          obtain ⟨x33, hx29, hm⟩ := bindE hm
          refine wH_idx (i := 3) (d := 186) (T := 24) (A := A3) (n := (y2).length) (cap := cap3) (kd := .i64) (m := x32) (by kernel_rfl) (qT (qB (qT (qL (qB (qT (qT qZ))))))) (by kernel_rfl) (by kernel_rfl) sl24 ((F43.sl encII_ok).is hx29) ?_
          refine wH_loadA (i := 4) (d := 187) (T := 35) (ad := (elA A3 2 (x32) 0)) (vs := [.int .i64 (x33.1), .int .i64 (x33.2)]) (by kernel_rfl) (qT (qB (qT (qL (qB (qT (qT qZ))))))) (by kernel_rfl) (by kernel_rfl) vt35 (fun W hW i u hu => Sl.cells_at ((Z10.chg hW Dj.nil).sl encII_ok) hx29 0 hu (by rfl)) ?_
          refine wH_take [5, 6, 7, 8, 9] [9, 8, 7, 6, 5, 4, 3, 2, 1, 0] [(192, .int .i64 (x32)), (191, .int .i64 (wr (x32 + 2))), (190, .int .i64 (x32)), (189, .slice A1 (l1).length cap1), (188, .slice A3 (y2).length cap3)] (by kernel_rfl) (qT (qB (qT (qL (qB (qT (qT qZ))))))) (by kernel_rfl) ?_
          refine wH_all [10] (by rfl) (by kernel_rfl) (by simp) ⟨⟨by kernel_rfl, ?_⟩, trivial⟩
          obtain ⟨y7, hy7, hm⟩ := bindE hm
          refine wS_calls (d := 193) (f := 10) (vs := [.slice A1 (l1).length cap1, .int .i64 (wr (x32 + 2)), .int .i64 (x32)]) (by kernel_rfl) ent10 (c_laws_b10At hy7 F42) ?_
          rintro _ w21 ⟨rfl, hc22⟩
          replace F42 := F42.chg hc22 Dj.nil
          replace F43 := F43.chg hc22 Dj.nil
          replace hB := hB.inS hc22 inNil
          have hSz := hS
          replace hS := hS.inS hc22 inNil
          replace hZ := Nat.le_trans hZ hc22.size
          refine ⟨.int .i64 (y7), rfl, ?_⟩
          refine wS_end (by kernel_rfl) ?_
          refine eX_KH hS ?_
          obtain ⟨x34, hx30, hm⟩ := bindE hm
          refine wH_idx (i := 11) (d := 194) (T := 24) (A := A3) (n := (y2).length) (cap := cap3) (kd := .i64) (m := y7) (by kernel_rfl) (qT (qB (qT (qL (qB (qT (qT qZ))))))) (by kernel_rfl) (by kernel_rfl) sl24 ((F43.sl encII_ok).is hx30) ?_
          refine wH_loadA (i := 12) (d := 195) (T := 35) (ad := (elA A3 2 (y7) 0)) (vs := [.int .i64 (x34.1), .int .i64 (x34.2)]) (by kernel_rfl) (qT (qB (qT (qL (qB (qT (qT qZ))))))) (by kernel_rfl) (by kernel_rfl) vt35 (fun W hW i u hu => Sl.cells_at ((Z10.chg hW Dj.nil).sl encII_ok) hx30 0 hu (by rfl)) ?_
          refine wH_all [13] (by rfl) (by kernel_rfl) (by simp) ⟨⟨by kernel_rfl, ?_⟩, trivial⟩
          obtain ⟨y8, hy8, hm⟩ := bindE hm
          refine wS_calls (d := 196) (f := 9) (vs := [.agg #[.int .i64 (x33.1), .int .i64 (x33.2)], .agg #[.int .i64 (x34.1), .int .i64 (x34.2)]]) (by kernel_rfl) ent9 (c_laws_b10Far hy8) ?_
          rintro _ w22 ⟨rfl, hc23⟩
          replace F42 := F42.chg hc23 Dj.nil
          replace F43 := F43.chg hc23 Dj.nil
          replace hB := hB.inS hc23 inNil
          have hSz := hS
          replace hS := hS.inS hc23 inNil
          replace hZ := Nat.le_trans hZ hc23.size
          refine ⟨.int .i64 (y8), rfl, ?_⟩
          refine wS_end (by kernel_rfl) ?_
          refine eX_KH hS ?_
          refine wH_done (by kernel_rfl) ?_
          refine eX_tail ?_
          refine wS_pure 2 [(19, .int .i64 (wr (x31 + y8))), (197, .int .i64 (wr (x31 + y8)))] (by kernel_rfl) ?_
          refine wS_end (by rfl) ?_
          refine eX_block ?_
          refine eX_then ?_
          refine cW_prune [(1, .slice A1 (l1).length cap1), (5, .slice A3 (y2).length cap3), (6, .int .i64 (((y2).length : Int))), (8, .int .i64 (y3.2.1)), (10, .int .i64 (y4.1)), (14, .int .i64 (x3)), (19, .int .i64 (wr (x31 + y8))), (20, .int .i64 (x32))] (by kernel_rfl) (by kernel_rfl) (fun a12 => ?_)
          refine cW_region ?_
          refine wS_pure 3 [(20, .int .i64 (wr (x32 + 1))), (182, .int .i64 (wr (x32 + 1))), (181, .int .i64 (x32))] (by kernel_rfl) ?_
          refine wS_end (by rfl) ?_
          have hq : (some (Ctl.next ((wr (x31 + y8), wr (x32 + 1)))) : Option (Ctl (Int × Int) (Int))) = some _ := hm
          replace hq := someE hq
          subst hq
          exact eX_next hx28 (fun hst => ⟨wr (x31 + y8), wr (x32 + 1), rfl, Fr.of hst (by kernel_rfl), F42, F43, hB, hZ⟩)
         ·have hm := condF hb15 hm
          refine cW_exit ?_
          refine eX_then_exit ?_
          have hq : (some (Ctl.out x31) : Option (Ctl (Int × Int) (Int))) = some _ := hm
          replace hq := someE hq
          subst hq
          refine eX_outX hx28 (fun hr8 => ?_)
          replace hr8 := hr8.symm
          subst hr8
          refine eX_block_hit ?_
          exact eX_J (fun hst => ⟨x31, rfl, Fr.of hst (by kernel_rfl), F42, F43, hB, hZ⟩)
        ·rintro a' w23 ⟨x30, hJ, hF9, F44, F45, hB, hZ⟩
         subst hJ
         refine Fr.goX hF9 (by kernel_rfl) ?_
         refine eX_then ?_
         refine cW_seq ?_
         refine cW_region ?_
         refine wS_pure 1 [(198, .slice A1 (l1).length cap1)] (by kernel_rfl) ?_
         obtain ⟨y9, hy9, hm⟩ := bindE hm
         refine wS_calls (d := 199) (f := 11) (vs := [.slice A1 (l1).length cap1, .int .i64 (0)]) (by kernel_rfl) ent11 (c_laws_b10Pin hy9 F44) ?_
         rintro _ w24 ⟨rfl, hc24⟩
         replace F44 := F44.chg hc24 Dj.nil
         replace F45 := F45.chg hc24 Dj.nil
         replace hB := hB.inS hc24 inNil
         replace hZ := Nat.le_trans hZ hc24.size
         refine ⟨.agg #[.int .i64 (y9.1), .int .i64 (y9.2)], rfl, ?_⟩
         refine wS_alloc (d := 21) (T := 35) (z := .agg #[.int .i64 (0), .int .i64 (0)]) (by kernel_rfl) (by kernel_rfl) ?_
         intro b2 w25 G13 F46 hc25
         replace F46 : Cl w25 b2 35 [.int .i64 (0), .int .i64 (0)] := F46
         have D4 : Dj fp2 [b2] := Dj.of F45.low (low1 G13)
         replace F44 := F44.chg hc25 Dj.nil
         replace F45 := F45.chg hc25 Dj.nil
         replace hB := hB.inS hc25 inNil
         replace G13 := Nat.le_trans hZ G13
         replace hZ := Nat.le_trans hZ hc25.size
         refine wS_store (T := 35) (g := b2) (o := 0) (ad := ⟨b2, 0, none⟩) (v := .agg #[.int .i64 (y9.1), .int .i64 (y9.2)]) (vs := [.int .i64 (y9.1), .int .i64 (y9.2)]) (by kernel_rfl) (by rfl) sz35 (by rfl) (by rfl) F46 (by simp only [List.length_cons, List.length_nil]; omega) ?_
         intro w26 F47 hc26
         replace F44 := F44.chg hc26 (Dj.of L1 (low1 G13))
         replace F45 := F45.chg hc26 D4
         replace hB := hB.inS hc26 (inLow (low1 G13))
         replace hZ := Nat.le_trans hZ hc26.size
         replace F47 : Cl w26 b2 35 [.int .i64 (y9.1), .int .i64 (y9.2)] := F47
         clear F46
         refine wS_end (by rfl) ?_
         refine eX_then ?_
         refine cW_seq ?_
         refine cW_region ?_
         refine wS_pure 1 [(201, .slice A3 (y2).length cap3)] (by kernel_rfl) ?_
         refine wS_loadA (d := 202) (T := 35) (ad := ⟨b2, 0, none⟩) (vs := [.int .i64 (y9.1), .int .i64 (y9.2)]) (by kernel_rfl) vt35 (fun i u hu => box_cells F47 0 hu (by rfl)) ?_
         obtain ⟨y10, hy10, hm⟩ := bindE hm
         refine wS_calls (d := 203) (f := 12) (vs := [.slice A3 (y2).length cap3, .agg #[.int .i64 (y9.1), .int .i64 (y9.2)]]) (by kernel_rfl) ent12 (c_impl_GainOf hy10 (F45.sl encII_ok) F45.cap_le) ?_
         rintro _ w27 ⟨rfl, hc27⟩
         replace F44 := F44.chg hc27 Dj.nil
         replace F45 := F45.chg hc27 Dj.nil
         replace F47 := F47.chg hc27 notNil
         replace hB := hB.inS hc27 inNil
         replace hZ := Nat.le_trans hZ hc27.size
         refine ⟨.tuple #[.int .i64 (y10.1), .bool (y10.2)], rfl, ?_⟩
         refine wS_pure 5 [(23, .bool (y10.2)), (22, .int .i64 (y10.1)), (205, .bool (y10.2)), (204, .int .i64 (y10.1)), (200, .tuple #[.int .i64 (y10.1), .bool (y10.2)])] (by kernel_rfl) ?_
         refine wS_end (by rfl) ?_
         refine eX_then ?_
         refine cW_seq ?_
         refine cW_seq ?_
         refine cW_region ?_
         refine wS_pure 3 [(208, .bool (!y10.2)), (207, .bool (!y10.2)), (206, .bool (y10.2))] (by kernel_rfl) ?_
         refine wS_bool (!y10.2) (fun hb16 => ?_) (fun hb16 => ?_)
         ·have hm := condT hb16 hm
          rewrite [hb16]
          refine wS_pure 23 [(231, .bool (true)), (230, undef), (229, undef), (228, undef), (227, undef), (226, undef), (225, .bool (true)), (224, .bool (true)), (223, undef), (222, undef), (221, undef), (220, undef), (219, undef), (218, .bool (true)), (217, .bool (true)), (216, undef), (215, undef), (214, undef), (213, .bool (true)), (212, .bool (true)), (211, undef), (210, undef), (209, undef)] (by kernel_rfl) ?_
          refine wS_end (by rfl) ?_
          refine eX_then ?_
          refine cW_prune [(5, .slice A3 (y2).length cap3), (8, .int .i64 (y3.2.1)), (21, .pointer (some ⟨b2, 0, none⟩)), (22, .int .i64 (y10.1)), (231, .bool (true))] (by kernel_rfl) (by kernel_rfl) (fun a13 => ?_)
          refine cW_cond_t (by kernel_rfl) ?_
          refine cW_seq ?_
          refine cW_region ?_
          refine wS_pure 1 [(4, .bool (false))] (by kernel_rfl) ?_
          refine wS_end (by rfl) ?_
          refine eX_then ?_
          refine cW_ret ?_
          refine eX_then_ret ?_
          have hq : (some false : Option ((Bool))) = some _ := hm
          replace hq := someE hq
          subst hq
          refine eX_ret (vs := [.bool (false)]) [.tmp 4] (by rfl) ⟨by (show lkE _ _ _ = _); kernel_rfl, trivial⟩ ?_
          exact ⟨rfl, hB⟩
         ·have hm := condF hb16 hm
          rewrite [hb16]
          refine wS_pure 5 [(213, .bool (x3 != y3.2.1)), (212, .bool (x3 != y3.2.1)), (211, .bool (x3 != y3.2.1)), (210, .int .i64 (y3.2.1)), (209, .int .i64 (x3))] (by kernel_rfl) ?_
          refine wS_bool (x3 != y3.2.1) (fun hb17 => ?_) (fun hb17 => ?_)
          ·have hm := condT hb17 hm
           rewrite [hb17]
           refine wS_pure 18 [(231, .bool (true)), (230, undef), (229, undef), (228, undef), (227, undef), (226, undef), (225, .bool (true)), (224, .bool (true)), (223, undef), (222, undef), (221, undef), (220, undef), (219, undef), (218, .bool (true)), (217, .bool (true)), (216, undef), (215, undef), (214, undef)] (by kernel_rfl) ?_
           refine wS_end (by rfl) ?_
           refine eX_then ?_
           refine cW_prune [(5, .slice A3 (y2).length cap3), (8, .int .i64 (y3.2.1)), (21, .pointer (some ⟨b2, 0, none⟩)), (22, .int .i64 (y10.1)), (231, .bool (true))] (by kernel_rfl) (by kernel_rfl) (fun a14 => ?_)
           refine cW_cond_t (by kernel_rfl) ?_
           refine cW_seq ?_
           refine cW_region ?_
           refine wS_pure 1 [(4, .bool (false))] (by kernel_rfl) ?_
           refine wS_end (by rfl) ?_
           refine eX_then ?_
           refine cW_ret ?_
           refine eX_then_ret ?_
           have hq : (some false : Option ((Bool))) = some _ := hm
           replace hq := someE hq
           subst hq
           refine eX_ret (vs := [.bool (false)]) [.tmp 4] (by rfl) ⟨by (show lkE _ _ _ = _); kernel_rfl, trivial⟩ ?_
           exact ⟨rfl, hB⟩
          ·have hm := condF hb17 hm
           rewrite [hb17]
           refine wS_pure 5 [(218, .bool (decide (y3.2.1 > x30))), (217, .bool (decide (y3.2.1 > x30))), (216, .bool (decide (y3.2.1 > x30))), (215, .int .i64 (x30)), (214, .int .i64 (y3.2.1))] (by kernel_rfl) ?_
           refine wS_bool (decide (y3.2.1 > x30)) (fun hb18 => ?_) (fun hb18 => ?_)
           ·have hm := condT hb18 hm
            rewrite [hb18]
            refine wS_pure 13 [(231, .bool (true)), (230, undef), (229, undef), (228, undef), (227, undef), (226, undef), (225, .bool (true)), (224, .bool (true)), (223, undef), (222, undef), (221, undef), (220, undef), (219, undef)] (by kernel_rfl) ?_
            refine wS_end (by rfl) ?_
            refine eX_then ?_
            refine cW_prune [(5, .slice A3 (y2).length cap3), (8, .int .i64 (y3.2.1)), (21, .pointer (some ⟨b2, 0, none⟩)), (22, .int .i64 (y10.1)), (231, .bool (true))] (by kernel_rfl) (by kernel_rfl) (fun a15 => ?_)
            refine cW_cond_t (by kernel_rfl) ?_
            refine cW_seq ?_
            refine cW_region ?_
            refine wS_pure 1 [(4, .bool (false))] (by kernel_rfl) ?_
            refine wS_end (by rfl) ?_
            refine eX_then ?_
            refine cW_ret ?_
            refine eX_then_ret ?_
            have hq : (some false : Option ((Bool))) = some _ := hm
            replace hq := someE hq
            subst hq
            refine eX_ret (vs := [.bool (false)]) [.tmp 4] (by rfl) ⟨by (show lkE _ _ _ = _); kernel_rfl, trivial⟩ ?_
            exact ⟨rfl, hB⟩
           ·have hm := condF hb18 hm
            rewrite [hb18]
            refine wS_pure 7 [(225, .bool (decide ((wr (2 * y3.2.1)) > (wr (3 * y4.1))))), (224, .bool (decide ((wr (2 * y3.2.1)) > (wr (3 * y4.1))))), (223, .bool (decide ((wr (2 * y3.2.1)) > (wr (3 * y4.1))))), (222, .int .i64 (wr (3 * y4.1))), (221, .int .i64 (y4.1)), (220, .int .i64 (wr (2 * y3.2.1))), (219, .int .i64 (y3.2.1))] (by kernel_rfl) ?_
            refine wS_bool (decide ((wr (2 * y3.2.1)) > (wr (3 * y4.1)))) (fun hb19 => ?_) (fun hb19 => ?_)
            ·have hm := condT hb19 hm
             rewrite [hb19]
             refine wS_pure 6 [(231, .bool (true)), (230, undef), (229, undef), (228, undef), (227, undef), (226, undef)] (by kernel_rfl) ?_
             refine wS_end (by rfl) ?_
             refine eX_then ?_
             refine cW_prune [(5, .slice A3 (y2).length cap3), (8, .int .i64 (y3.2.1)), (21, .pointer (some ⟨b2, 0, none⟩)), (22, .int .i64 (y10.1)), (231, .bool (true))] (by kernel_rfl) (by kernel_rfl) (fun a16 => ?_)
             refine cW_cond_t (by kernel_rfl) ?_
             refine cW_seq ?_
             refine cW_region ?_
             refine wS_pure 1 [(4, .bool (false))] (by kernel_rfl) ?_
             refine wS_end (by rfl) ?_
             refine eX_then ?_
             refine cW_ret ?_
             refine eX_then_ret ?_
             have hq : (some false : Option ((Bool))) = some _ := hm
             replace hq := someE hq
             subst hq
             refine eX_ret (vs := [.bool (false)]) [.tmp 4] (by rfl) ⟨by (show lkE _ _ _ = _); kernel_rfl, trivial⟩ ?_
             exact ⟨rfl, hB⟩
            ·have hm := condF hb19 hm
             rewrite [hb19]
             refine wS_pure 6 [(231, .bool (decide (y4.1 > (wr (y3.2.1 - y10.1))))), (230, .bool (decide (y4.1 > (wr (y3.2.1 - y10.1))))), (229, .int .i64 (wr (y3.2.1 - y10.1))), (228, .int .i64 (y10.1)), (227, .int .i64 (y3.2.1)), (226, .int .i64 (y4.1))] (by kernel_rfl) ?_
             refine wS_end (by rfl) ?_
             refine eX_then ?_
             refine cW_prune [(5, .slice A3 (y2).length cap3), (8, .int .i64 (y3.2.1)), (21, .pointer (some ⟨b2, 0, none⟩)), (22, .int .i64 (y10.1)), (231, .bool (decide (y4.1 > (wr (y3.2.1 - y10.1)))))] (by kernel_rfl) (by kernel_rfl) (fun a17 => ?_)
             refine cW_cond (t := decide (y4.1 > (wr (y3.2.1 - y10.1)))) (by kernel_rfl) (fun hb20 => ?_) (fun hb20 => ?_)
             ·have hm := condT hb20 hm
              refine cW_seq ?_
              refine cW_region ?_
              refine wS_pure 1 [(4, .bool (false))] (by kernel_rfl) ?_
              refine wS_end (by rfl) ?_
              refine eX_then ?_
              refine cW_ret ?_
              refine eX_then_ret ?_
              have hq : (some false : Option ((Bool))) = some _ := hm
              replace hq := someE hq
              subst hq
              refine eX_ret (vs := [.bool (false)]) [.tmp 4] (by rfl) ⟨by (show lkE _ _ _ = _); kernel_rfl, trivial⟩ ?_
              exact ⟨rfl, hB⟩
             ·have hm := condF hb20 hm
              refine cW_skip ?_
              refine eX_then ?_
              refine cW_seq ?_
              obtain ⟨s6, hs2, hm⟩ := bindE hm
              refine cW_cut (fun a' w' => ∃ l9 : List (Int × Int), ∃ A14 : Option Addr, ∃ cap14 : Nat, ∃ fp4 : List Nat, l9 = s6 ∧ Fr 257 [(5, .slice A3 (y2).length cap3), (8, .int .i64 (y3.2.1)), (21, .pointer (some ⟨b2, 0, none⟩)), (22, .int .i64 (y10.1)), (24, .slice A14 (l9).length cap14)] a' ∧ Ow 2 encII 35 w' fp2 A3 cap3 y2 ∧ Cl w' b2 35 [.int .i64 (y9.1), .int .i64 (y9.2)] ∧ Ow 2 encII 35 w' fp4 A14 cap14 l9 ∧ (∀ x ∈ fp4, w0.heap.size ≤ x) ∧ Dj fp2 fp4 ∧ Dj [b2] fp4 ∧ Chg [] w0 w' ∧ w0.heap.size ≤ w'.heap.size) ?_ ?_
              ·have hm := hs2
               refine cW_drawnTail [] 5 (by kernel_rfl) (by kernel_rfl) (fun w28 hc28 => ?_)
               replace F44 := F44.chg hc28 Dj.nil
               replace F45 := F45.chg hc28 Dj.nil
               replace F47 := F47.chg hc28 notNil
               replace hB := hB.inS hc28 inNil
               replace hZ := Nat.le_trans hZ hc28.size
               have hS := Chg.refl [] w28
               have Z11 := F44
               have Z12 := F45
               have Z13 := F47
               refine wH_take [1] [1] [(233, .slice A3 (y2).length cap3)] (by kernel_rfl) (qT (qT (qT qZ))) (by kernel_rfl) ?_
               refine wH_loadA (i := 3) (d := 235) (T := 35) (ad := ⟨b2, 0, none⟩) (vs := [.int .i64 (y9.1), .int .i64 (y9.2)]) (by kernel_rfl) (qT (qT (qT qZ))) (by kernel_rfl) (by kernel_rfl) vt35 (fun W hW i u hu => box_cells (Z13.chg hW notNil) 0 hu (by rfl)) ?_
               refine wH_all [0, 4] (by rfl) (by kernel_rfl) (by simp) ⟨⟨by kernel_rfl, ?_⟩, ⟨by kernel_rfl, ?_⟩, trivial⟩
               ·skip
                refine wS_bs0 (α := Int × Int) (enc := encII) (d := 232) (t := 24) (T := 35) (by kernel_rfl) el24 ?_
                intro b3 w29 G14 F48 hc29
                have D5 : Dj fp2 [b3] := Dj.of F45.low (low1 G14)
                have D6 : Dj [b2] [b3] := Dj.of (lt1 F47.lt) (low1 G14)
                replace F44 := F44.chg hc29 Dj.nil
                replace F45 := F45.chg hc29 Dj.nil
                replace F47 := F47.chg hc29 notNil
                replace hB := hB.inS hc29 inNil
                have hSz := hS
                replace hS := hS.inS hc29 inNil
                have Gz1 := low1 (Nat.le_trans hSz.size G14)
                replace G14 := Nat.le_trans hZ G14
                replace G14 := low1 G14
                replace hZ := Nat.le_trans hZ hc29.size
                refine wS_end (by kernel_rfl) ?_
                refine eX_KH hS ?_
                refine wH_all [2, 4] (by rfl) (by kernel_rfl) (by simp) ⟨⟨by kernel_rfl, ?_⟩, ⟨by kernel_rfl, ?_⟩, trivial⟩
                ·skip
                 obtain ⟨_, hk2, hm⟩ := bindE hm
                 replace hk2 := apE hk2
                 refine wS_appendAny (enc := encII) (l := (([] : List (Int × Int)) : List (Int × Int))) (l2 := (y2 : List (Int × Int))) (d := 234) (t := 24) (T := 35) (A := (some ⟨b3, 0, none⟩)) (A2 := A3) (cap := 0) (cap2 := cap3) (by kernel_rfl) el24 encII_ok F48 (F45.sl encII_ok) hk2 ?_
                 intro w30 fp5 A15 cap15 F49 hc30 hp1
                 have G15 := low_ap G14 hZ hp1
                 have D7 : Dj fp2 fp5 := Dj.ap D5 F45.low hp1
                 have D8 : Dj [b2] fp5 := Dj.ap D6 (lt1 F47.lt) hp1
                 replace F44 := F44.chg hc30 (Dj.of L1 G14)
                 replace F45 := F45.chg hc30 D5
                 replace F47 := F47.chg hc30 (dj1 D6)
                 replace hB := hB.inS hc30 (inLow G14)
                 have hSz := hS
                 replace hS := hS.inS hc30 (inLow Gz1)
                 have Sn1 := sin_ap (Sg := []) (inLow Gz1) hSz.size hp1
                 replace hZ := Nat.le_trans hZ hc30.size
                 refine wS_end (by kernel_rfl) ?_
                 refine eX_KH hS ?_
                 refine wH_all [4] (by rfl) (by kernel_rfl) (by simp) ⟨⟨by kernel_rfl, ?_⟩, trivial⟩
                 refine wS_bs (enc := encII) ([(y9.1, y9.2)] : List (Int × Int)) [.int .i64 (y9.1), .int .i64 (y9.2)] (d := 236) (t := 24) (T := 35) (n := 1) (ps := [(0, .agg #[.int .i64 (y9.1), .int .i64 (y9.2)])]) (by kernel_rfl) el24 encII_ok (by rfl) (by omega) (by omega) (by kernel_rfl) (by rfl) ?_
                 intro b4 w31 G16 F50 hc31
                 have D9 : Dj fp2 [b4] := Dj.of F45.low (low1 G16)
                 have D10 : Dj [b2] [b4] := Dj.of (lt1 F47.lt) (low1 G16)
                 have D11 : Dj fp5 [b4] := Dj.of F49.low (low1 G16)
                 replace F44 := F44.chg hc31 Dj.nil
                 replace F45 := F45.chg hc31 Dj.nil
                 replace F47 := F47.chg hc31 notNil
                 replace F49 := F49.chg hc31 Dj.nil
                 replace hB := hB.inS hc31 inNil
                 have hSz := hS
                 replace hS := hS.inS hc31 inNil
                 have Gz2 := low1 (Nat.le_trans hSz.size G16)
                 replace G16 := Nat.le_trans hZ G16
                 replace G16 := low1 G16
                 replace hZ := Nat.le_trans hZ hc31.size
                 refine wS_end (by kernel_rfl) ?_
                 refine eX_KH hS ?_
                 refine wH_done (by kernel_rfl) ?_
                 refine eX_tail ?_
                 obtain ⟨_, hk3, hm⟩ := bindE hm
                 replace hk3 := apE hk3
                 refine wS_append (enc := encII) (l := ((([] : List (Int × Int))) ++ y2 : List (Int × Int))) (l2 := (([(y9.1, y9.2)] : List (Int × Int)) : List (Int × Int))) (d := 237) (t := 24) (T := 35) (A := A15) (A2 := (some ⟨b4, 0, none⟩)) (cap := cap15) (cap2 := 1) (by kernel_rfl) el24 encII_ok F49 (F50.sl encII_ok) (by rfl) hk3 ?_
                 intro w32 fp6 A16 cap16 F51 hc32 hp2
                 have G17 := low_ap G15 hZ hp2
                 have D12 : Dj fp2 fp6 := Dj.ap D7 F45.low hp2
                 have D13 : Dj [b2] fp6 := Dj.ap D8 (lt1 F47.lt) hp2
                 have D14 : Dj [b4] fp6 := Dj.ap (D11).symm F50.low hp2
                 replace F44 := F44.chg hc32 (Dj.of L1 G15)
                 replace F45 := F45.chg hc32 D7
                 replace F47 := F47.chg hc32 (dj1 D8)
                 replace F50 := F50.chg hc32 (D11).symm
                 replace hB := hB.inS hc32 (inLow G15)
                 replace hZ := Nat.le_trans hZ hc32.size
                 refine wS_pure 1 [(24, .slice A16 (((([] : List (Int × Int))) ++ y2) ++ (([(y9.1, y9.2)] : List (Int × Int)))).length cap16)] (by kernel_rfl) ?_
                 refine wS_end (by rfl) ?_
                 have hq : (some (((([] : List (Int × Int))) ++ y2) ++ (([(y9.1, y9.2)] : List (Int × Int)))) : Option ((List (Int × Int)))) = some _ := hm
                 replace hq := someE hq
                 subst hq
                 exact eX_J (fun hst => ⟨((([] : List (Int × Int))) ++ y2) ++ (([(y9.1, y9.2)] : List (Int × Int))), A16, cap16, fp6, rfl, Fr.of hst (by kernel_rfl), F45, F47, F51, G17, D12, D13, hB, hZ⟩)
                ·skip
                 refine wS_bs (enc := encII) ([(y9.1, y9.2)] : List (Int × Int)) [.int .i64 (y9.1), .int .i64 (y9.2)] (d := 236) (t := 24) (T := 35) (n := 1) (ps := [(0, .agg #[.int .i64 (y9.1), .int .i64 (y9.2)])]) (by kernel_rfl) el24 encII_ok (by rfl) (by omega) (by omega) (by kernel_rfl) (by rfl) ?_
                 intro b5 w33 G18 F52 hc33
                 have D15 : Dj fp2 [b5] := Dj.of F45.low (low1 G18)
                 have D16 : Dj [b2] [b5] := Dj.of (lt1 F47.lt) (low1 G18)
                 have D17 : Dj [b3] [b5] := Dj.of F48.low (low1 G18)
                 replace F44 := F44.chg hc33 Dj.nil
                 replace F45 := F45.chg hc33 Dj.nil
                 replace F47 := F47.chg hc33 notNil
                 replace F48 := F48.chg hc33 Dj.nil
                 replace hB := hB.inS hc33 inNil
                 have hSz := hS
                 replace hS := hS.inS hc33 inNil
                 have Gz3 := low1 (Nat.le_trans hSz.size G18)
                 replace G18 := Nat.le_trans hZ G18
                 replace G18 := low1 G18
                 replace hZ := Nat.le_trans hZ hc33.size
                 refine wS_end (by kernel_rfl) ?_
                 refine eX_KH hS ?_
                 refine wH_all [2] (by rfl) (by kernel_rfl) (by simp) ⟨⟨by kernel_rfl, ?_⟩, trivial⟩
                 obtain ⟨_, hk4, hm⟩ := bindE hm
                 replace hk4 := apE hk4
                 refine wS_appendAny (enc := encII) (l := (([] : List (Int × Int)) : List (Int × Int))) (l2 := (y2 : List (Int × Int))) (d := 234) (t := 24) (T := 35) (A := (some ⟨b3, 0, none⟩)) (A2 := A3) (cap := 0) (cap2 := cap3) (by kernel_rfl) el24 encII_ok F48 (F45.sl encII_ok) hk4 ?_
                 intro w34 fp7 A17 cap17 F53 hc34 hp3
                 have G19 := low_ap G14 hZ hp3
                 have D18 : Dj fp2 fp7 := Dj.ap D5 F45.low hp3
                 have D19 : Dj [b2] fp7 := Dj.ap D6 (lt1 F47.lt) hp3
                 have D20 : Dj [b5] fp7 := Dj.ap (D17).symm F52.low hp3
                 replace F44 := F44.chg hc34 (Dj.of L1 G14)
                 replace F45 := F45.chg hc34 D5
                 replace F47 := F47.chg hc34 (dj1 D6)
                 replace F52 := F52.chg hc34 (D17).symm
                 replace hB := hB.inS hc34 (inLow G14)
                 have hSz := hS
                 replace hS := hS.inS hc34 (inLow Gz1)
                 have Sn2 := sin_ap (Sg := []) (inLow Gz1) hSz.size hp3
                 replace hZ := Nat.le_trans hZ hc34.size
                 refine wS_end (by kernel_rfl) ?_
                 refine eX_KH hS ?_
                 refine wH_done (by kernel_rfl) ?_
                 refine eX_tail ?_
                 obtain ⟨_, hk5, hm⟩ := bindE hm
                 replace hk5 := apE hk5
                 refine wS_append (enc := encII) (l := ((([] : List (Int × Int))) ++ y2 : List (Int × Int))) (l2 := (([(y9.1, y9.2)] : List (Int × Int)) : List (Int × Int))) (d := 237) (t := 24) (T := 35) (A := A17) (A2 := (some ⟨b5, 0, none⟩)) (cap := cap17) (cap2 := 1) (by kernel_rfl) el24 encII_ok F53 (F52.sl encII_ok) (by rfl) hk5 ?_
                 intro w35 fp8 A18 cap18 F54 hc35 hp4
                 have G20 := low_ap G19 hZ hp4
                 have D21 : Dj fp2 fp8 := Dj.ap D18 F45.low hp4
                 have D22 : Dj [b2] fp8 := Dj.ap D19 (lt1 F47.lt) hp4
                 have D23 : Dj [b5] fp8 := Dj.ap D20 F52.low hp4
                 replace F44 := F44.chg hc35 (Dj.of L1 G19)
                 replace F45 := F45.chg hc35 D18
                 replace F47 := F47.chg hc35 (dj1 D19)
                 replace F52 := F52.chg hc35 D20
                 replace hB := hB.inS hc35 (inLow G19)
                 replace hZ := Nat.le_trans hZ hc35.size
                 refine wS_pure 1 [(24, .slice A18 (((([] : List (Int × Int))) ++ y2) ++ (([(y9.1, y9.2)] : List (Int × Int)))).length cap18)] (by kernel_rfl) ?_
                 refine wS_end (by rfl) ?_
                 have hq : (some (((([] : List (Int × Int))) ++ y2) ++ (([(y9.1, y9.2)] : List (Int × Int)))) : Option ((List (Int × Int)))) = some _ := hm
                 replace hq := someE hq
                 subst hq
                 exact eX_J (fun hst => ⟨((([] : List (Int × Int))) ++ y2) ++ (([(y9.1, y9.2)] : List (Int × Int))), A18, cap18, fp8, rfl, Fr.of hst (by kernel_rfl), F45, F47, F54, G20, D21, D22, hB, hZ⟩)
               ·skip
                refine wS_bs (enc := encII) ([(y9.1, y9.2)] : List (Int × Int)) [.int .i64 (y9.1), .int .i64 (y9.2)] (d := 236) (t := 24) (T := 35) (n := 1) (ps := [(0, .agg #[.int .i64 (y9.1), .int .i64 (y9.2)])]) (by kernel_rfl) el24 encII_ok (by rfl) (by omega) (by omega) (by kernel_rfl) (by rfl) ?_
                intro b6 w36 G21 F55 hc36
                have D24 : Dj fp2 [b6] := Dj.of F45.low (low1 G21)
                have D25 : Dj [b2] [b6] := Dj.of (lt1 F47.lt) (low1 G21)
                replace F44 := F44.chg hc36 Dj.nil
                replace F45 := F45.chg hc36 Dj.nil
                replace F47 := F47.chg hc36 notNil
                replace hB := hB.inS hc36 inNil
                have hSz := hS
                replace hS := hS.inS hc36 inNil
                have Gz4 := low1 (Nat.le_trans hSz.size G21)
                replace G21 := Nat.le_trans hZ G21
                replace G21 := low1 G21
                replace hZ := Nat.le_trans hZ hc36.size
                refine wS_end (by kernel_rfl) ?_
                refine eX_KH hS ?_
                refine wH_all [0] (by rfl) (by kernel_rfl) (by simp) ⟨⟨by kernel_rfl, ?_⟩, trivial⟩
                refine wS_bs0 (α := Int × Int) (enc := encII) (d := 232) (t := 24) (T := 35) (by kernel_rfl) el24 ?_
                intro b7 w37 G22 F56 hc37
                have D26 : Dj fp2 [b7] := Dj.of F45.low (low1 G22)
                have D27 : Dj [b2] [b7] := Dj.of (lt1 F47.lt) (low1 G22)
                have D28 : Dj [b6] [b7] := Dj.of F55.low (low1 G22)
                replace F44 := F44.chg hc37 Dj.nil
                replace F45 := F45.chg hc37 Dj.nil
                replace F47 := F47.chg hc37 notNil
                replace F55 := F55.chg hc37 Dj.nil
                replace hB := hB.inS hc37 inNil
                have hSz := hS
                replace hS := hS.inS hc37 inNil
                have Gz5 := low1 (Nat.le_trans hSz.size G22)
                replace G22 := Nat.le_trans hZ G22
                replace G22 := low1 G22
                replace hZ := Nat.le_trans hZ hc37.size
                refine wS_end (by kernel_rfl) ?_
                refine eX_KH hS ?_
                refine wH_all [2] (by rfl) (by kernel_rfl) (by simp) ⟨⟨by kernel_rfl, ?_⟩, trivial⟩
                obtain ⟨_, hk6, hm⟩ := bindE hm
                replace hk6 := apE hk6
                refine wS_appendAny (enc := encII) (l := (([] : List (Int × Int)) : List (Int × Int))) (l2 := (y2 : List (Int × Int))) (d := 234) (t := 24) (T := 35) (A := (some ⟨b7, 0, none⟩)) (A2 := A3) (cap := 0) (cap2 := cap3) (by kernel_rfl) el24 encII_ok F56 (F45.sl encII_ok) hk6 ?_
                intro w38 fp9 A19 cap19 F57 hc38 hp5
                have G23 := low_ap G22 hZ hp5
                have D29 : Dj fp2 fp9 := Dj.ap D26 F45.low hp5
                have D30 : Dj [b2] fp9 := Dj.ap D27 (lt1 F47.lt) hp5
                have D31 : Dj [b6] fp9 := Dj.ap D28 F55.low hp5
                replace F44 := F44.chg hc38 (Dj.of L1 G22)
                replace F45 := F45.chg hc38 D26
                replace F47 := F47.chg hc38 (dj1 D27)
                replace F55 := F55.chg hc38 D28
                replace hB := hB.inS hc38 (inLow G22)
                have hSz := hS
                replace hS := hS.inS hc38 (inLow Gz5)
                have Sn3 := sin_ap (Sg := []) (inLow Gz5) hSz.size hp5
                replace hZ := Nat.le_trans hZ hc38.size
                refine wS_end (by kernel_rfl) ?_
                refine eX_KH hS ?_
                refine wH_done (by kernel_rfl) ?_
                refine eX_tail ?_
                obtain ⟨_, hk7, hm⟩ := bindE hm
                replace hk7 := apE hk7
                refine wS_append (enc := encII) (l := ((([] : List (Int × Int))) ++ y2 : List (Int × Int))) (l2 := (([(y9.1, y9.2)] : List (Int × Int)) : List (Int × Int))) (d := 237) (t := 24) (T := 35) (A := A19) (A2 := (some ⟨b6, 0, none⟩)) (cap := cap19) (cap2 := 1) (by kernel_rfl) el24 encII_ok F57 (F55.sl encII_ok) (by rfl) hk7 ?_
                intro w39 fp10 A20 cap20 F58 hc39 hp6
                have G24 := low_ap G23 hZ hp6
                have D32 : Dj fp2 fp10 := Dj.ap D29 F45.low hp6
                have D33 : Dj [b2] fp10 := Dj.ap D30 (lt1 F47.lt) hp6
                have D34 : Dj [b6] fp10 := Dj.ap D31 F55.low hp6
                replace F44 := F44.chg hc39 (Dj.of L1 G23)
                replace F45 := F45.chg hc39 D29
                replace F47 := F47.chg hc39 (dj1 D30)
                replace F55 := F55.chg hc39 D31
                replace hB := hB.inS hc39 (inLow G23)
                replace hZ := Nat.le_trans hZ hc39.size
                refine wS_pure 1 [(24, .slice A20 (((([] : List (Int × Int))) ++ y2) ++ (([(y9.1, y9.2)] : List (Int × Int)))).length cap20)] (by kernel_rfl) ?_
                refine wS_end (by rfl) ?_
                have hq : (some (((([] : List (Int × Int))) ++ y2) ++ (([(y9.1, y9.2)] : List (Int × Int)))) : Option ((List (Int × Int)))) = some _ := hm
                replace hq := someE hq
                subst hq
                exact eX_J (fun hst => ⟨((([] : List (Int × Int))) ++ y2) ++ (([(y9.1, y9.2)] : List (Int × Int))), A20, cap20, fp10, rfl, Fr.of hst (by kernel_rfl), F45, F47, F58, G24, D32, D33, hB, hZ⟩)
              ·rintro a' w40 ⟨l9, A14, cap14, fp4, hJ, hF10, F59, F60, F61, G25, D35, D36, hB, hZ⟩
               subst hJ
               refine Fr.goX hF10 (by kernel_rfl) ?_
               refine eX_then ?_
               refine cW_seq ?_
               refine cW_seq ?_
               refine cW_region ?_
               refine wS_pure 1 [(238, .slice A3 (y2).length cap3)] (by kernel_rfl) ?_
               refine wS_loadA (d := 239) (T := 35) (ad := ⟨b2, 0, none⟩) (vs := [.int .i64 (y9.1), .int .i64 (y9.2)]) (by kernel_rfl) vt35 (fun i u hu => box_cells F60 0 hu (by rfl)) ?_
               obtain ⟨y11, hy11, hm⟩ := bindE hm
               refine wS_calls (d := 240) (f := 13) (vs := [.slice A3 (y2).length cap3, .agg #[.int .i64 (y9.1), .int .i64 (y9.2)]]) (by kernel_rfl) ent13 (c_laws_b10In hy11 (F59.sl encII_ok)) ?_
               rintro _ w41 ⟨rfl, hc40⟩
               replace F59 := F59.chg hc40 Dj.nil
               replace F60 := F60.chg hc40 notNil
               replace F61 := F61.chg hc40 Dj.nil
               replace hB := hB.inS hc40 inNil
               replace hZ := Nat.le_trans hZ hc40.size
               refine ⟨.bool (y11), rfl, ?_⟩
               refine wS_end (by rfl) ?_
               refine eX_then ?_
               refine cW_cond (t := y11) (by kernel_rfl) (fun hb21 => ?_) (fun hb21 => ?_)
               ·have hm := condT hb21 hm
                refine cW_seq ?_
                refine cW_region ?_
                refine wS_pure 3 [(4, .bool (y10.1 == 0)), (242, .bool (y10.1 == 0)), (241, .int .i64 (y10.1))] (by kernel_rfl) ?_
                refine wS_end (by rfl) ?_
                refine eX_then ?_
                refine cW_ret ?_
                refine eX_then_ret ?_
                have hq : (some (y10.1 == 0) : Option ((Bool))) = some _ := hm
                replace hq := someE hq
                subst hq
                refine eX_ret (vs := [.bool (y10.1 == 0)]) [.tmp 4] (by rfl) ⟨by (show lkE _ _ _ = _); kernel_rfl, trivial⟩ ?_
                exact ⟨rfl, hB⟩
               ·have hm := condF hb21 hm
                refine cW_skip ?_
                refine eX_then ?_
                refine cW_seq ?_
                refine cW_region ?_
                refine wS_pure 1 [(244, .slice A14 (l9).length cap14)] (by kernel_rfl) ?_
                obtain ⟨y12, hy12, hm⟩ := bindE hm
                refine wS_calls (d := 245) (f := 6) (vs := [.slice A14 (l9).length cap14]) (by kernel_rfl) ent6 (c_impl_SpanningTree hy12 (F61.sl encII_ok)) ?_
                rintro _ w42 ⟨A21, cap21, fp11, fr2, rfl, F62, G26, hc41⟩
                have D37 : Dj fp2 (fp11 ++ fr2) := Dj.of F59.low G26
                have D38 : Dj [b2] (fp11 ++ fr2) := Dj.of (lt1 F60.lt) G26
                have D39 : Dj fp4 (fp11 ++ fr2) := Dj.of F61.low G26
                replace F59 := F59.chg hc41 Dj.nil
                replace F60 := F60.chg hc41 notNil
                replace F61 := F61.chg hc41 Dj.nil
                replace hB := hB.inS hc41 inNil
                replace G26 := low_le hZ G26
                replace hZ := Nat.le_trans hZ hc41.size
                refine ⟨.tuple #[.slice A21 (y12.1).length cap21, .int .i64 (y12.2.1), .bool (y12.2.2)], rfl, ?_⟩
                refine wS_pure 7 [(27, .bool (y12.2.2)), (26, .int .i64 (y12.2.1)), (25, .slice A21 (y12.1).length cap21), (248, .bool (y12.2.2)), (247, .int .i64 (y12.2.1)), (246, .slice A21 (y12.1).length cap21), (243, .tuple #[.slice A21 (y12.1).length cap21, .int .i64 (y12.2.1), .bool (y12.2.2)])] (by kernel_rfl) ?_
                refine wS_end (by rfl) ?_
                refine eX_then ?_
                refine cW_seq ?_
                refine cW_region ?_
                refine wS_pure 2 [(250, .bool (y12.2.2)), (249, .bool (y12.2.2))] (by kernel_rfl) ?_
                refine wS_bool y12.2.2 (fun hb22 => ?_) (fun hb22 => ?_)
                ·have hm := condT hb22 hm
                 rewrite [hb22]
                 refine wS_pure 7 [(4, .bool (y12.2.1 == (wr (y3.2.1 - y10.1)))), (256, .bool (y12.2.1 == (wr (y3.2.1 - y10.1)))), (255, .bool (y12.2.1 == (wr (y3.2.1 - y10.1)))), (254, .int .i64 (wr (y3.2.1 - y10.1))), (253, .int .i64 (y10.1)), (252, .int .i64 (y3.2.1)), (251, .int .i64 (y12.2.1))] (by kernel_rfl) ?_
                 refine wS_end (by rfl) ?_
                 refine eX_then ?_
                 refine cW_prune [(4, .bool (y12.2.1 == (wr (y3.2.1 - y10.1))))] (by kernel_rfl) (by kernel_rfl) (fun a18 => ?_)
                 refine cW_ret ?_
                 have hq : (some (y12.2.1 == (wr (y3.2.1 - y10.1))) : Option ((Bool))) = some _ := hm
                 replace hq := someE hq
                 subst hq
                 refine eX_ret (vs := [.bool (y12.2.1 == (wr (y3.2.1 - y10.1)))]) [.tmp 4] (by rfl) ⟨by (show lkE _ _ _ = _); kernel_rfl, trivial⟩ ?_
                 exact ⟨rfl, hB⟩
                ·have hm := condF hb22 hm
                 rewrite [hb22]
                 refine wS_pure 7 [(4, .bool (false)), (256, .bool (false)), (255, undef), (254, undef), (253, undef), (252, undef), (251, undef)] (by kernel_rfl) ?_
                 refine wS_end (by rfl) ?_
                 refine eX_then ?_
                 refine cW_prune [(4, .bool (false))] (by kernel_rfl) (by kernel_rfl) (fun a19 => ?_)
                 refine cW_ret ?_
                 have hq : (some false : Option ((Bool))) = some _ := hm
                 replace hq := someE hq
                 subst hq
                 refine eX_ret (vs := [.bool (false)]) [.tmp 4] (by rfl) ⟨by (show lkE _ _ _ = _); kernel_rfl, trivial⟩ ?_
                 exact ⟨rfl, hB⟩

end Go.Proofs.Ytooogkcoedampaa
