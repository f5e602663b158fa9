/- Printed walks: spec.BestJoins, laws.toPoint, laws.toPointS, laws.eqInt64S, laws.eqInt64SS, laws.eqPoint, laws.eqPointS, laws.markPointS, laws.markInt64S, laws.markInt64SS, laws.heldInt64S, laws.heldInt64SS, laws.FnExactBestJoins. -/
import Derived.Test.YtfjpfomdoohabaaProg
import Derived.Test.YtfjpfomdoohabaaWBj03
set_option linter.unusedSimpArgs false
set_option linter.unusedVariables false
namespace Go.Proofs.Ytfjpfomdoohabaa
open Go.RowKit
attribute [local irreducible] wS cW eX wH

theorem ent7 : Ent Try.prog 7 := fun _ => by kernel_rfl
theorem ent13 : Ent Try.prog 13 := fun _ => by kernel_rfl
theorem ent14 : Ent Try.prog 14 := fun _ => by kernel_rfl
theorem ent15 : Ent Try.prog 15 := fun _ => by kernel_rfl
theorem ent16 : Ent Try.prog 16 := fun _ => by kernel_rfl
theorem ent17 : Ent Try.prog 17 := fun _ => by kernel_rfl
theorem ent18 : Ent Try.prog 18 := fun _ => by kernel_rfl
theorem ent19 : Ent Try.prog 19 := fun _ => by kernel_rfl
theorem ent20 : Ent Try.prog 20 := fun _ => by kernel_rfl
theorem ent32 : Ent Try.prog 32 := fun _ => by kernel_rfl
theorem ent34 : Ent Try.prog 34 := fun _ => by kernel_rfl
theorem ent35 : Ent Try.prog 35 := fun _ => by kernel_rfl
theorem ent36 : Ent Try.prog 36 := fun _ => by kernel_rfl
theorem ent37 : Ent Try.prog 37 := fun _ => by kernel_rfl
theorem ent38 : Ent Try.prog 38 := fun _ => by kernel_rfl
theorem vt73 : VarTy Try.prog 73 2 true := ⟨by kernel_rfl, by kernel_rfl⟩
theorem sl37 : SlTy Try.prog 37 73 2 := ⟨Try.underlying37, by kernel_rfl⟩
theorem el24 : ElTy Try.prog 24 49 2 (.agg #[.int .i64 (0), .int .i64 (0)]) := ElTy.mk' Try.underlying24 (by kernel_rfl) (by rfl)

set_option maxRecDepth 100000 in
/-- spec.BestJoins -/
theorem c_spec_BestJoins {w0 : World} {l0 : List (Int × Int)} {A0 : Option Addr} {cap0 : Nat} {fp0 : List Nat} {r : (List (List (Int))) × (Int) × (Bool)} (hm : m_spec_BestJoins l0 = some r) (F0 : Sl 2 encII w0 fp0 A0 l0) :
  Calls Try.prog 14 #[.slice A0 (l0).length cap0] w0 fun e w' => ∃ A100 cap100 fp100, e = .returned (.tuple #[.slice A100 (r.1).length cap100, .int .i64 (r.2.1), .bool (r.2.2)]) ∧ SlR 1 encI w' fp100 A100 r.1 ∧ Rt w0.heap.size (fp0 ++ []) fp100 ∧ (r.1).length ≤ cap100 ∧ Chg [] w0 w' := by
 have L0 := F0.low
 have hB : Chg [] w0 w0 := Chg.refl _ _
 have hZ := Nat.le_refl w0.heap.size
 unfold m_spec_BestJoins at hm
 refine enterE (N := 37) Try.func14 (by rfl) Try.ntmps14 (by simp) [(0, .slice A0 (l0).length cap0)] (by rfl) (by kernel_rfl) (fun a => ?_)
 refine cW_seq ?_
 refine cW_region ?_
 refine wS_pure 3 [(4, .bool (false)), (3, .int .i64 (0)), (2, .slice none 0 0)] (by kernel_rfl) ?_
 refine wS_end (by rfl) ?_
 refine eX_then ?_
 refine cW_seq ?_
 refine cW_seq ?_
 refine cW_region ?_
 refine wS_pure 1 [(9, .slice A0 (l0).length cap0)] (by kernel_rfl) ?_
 obtain ⟨y1, hy1, hm⟩ := bindE hm
 refine wS_calls (d := 10) (f := 32) (vs := [.slice A0 (l0).length cap0]) (by kernel_rfl) ent32 (c_spec_l06Pins hy1 F0) ?_
 rintro _ w1 ⟨rfl, hc1⟩
 replace F0 := F0.chg hc1 Dj.nil
 replace hB := hB.inS hc1 inNil
 replace hZ := Nat.le_trans hZ hc1.size
 refine ⟨.bool (y1), rfl, ?_⟩
 refine wS_pure 2 [(12, .bool (!y1)), (11, .bool (!y1))] (by kernel_rfl) ?_
 refine wS_bool (!y1) (fun hb1 => ?_) (fun hb1 => ?_)
 ·have hm := condT hb1 hm
  rewrite [hb1]
  refine wS_pure 4 [(16, .bool (true)), (15, undef), (14, undef), (13, undef)] (by kernel_rfl) ?_
  refine wS_end (by rfl) ?_
  refine eX_then ?_
  refine cW_cond_t (by kernel_rfl) ?_
  refine cW_seq ?_
  refine cW_region ?_
  refine wS_pure 3 [(4, .bool (false)), (3, .int .i64 (0)), (2, .slice none 0 0)] (by kernel_rfl) ?_
  refine wS_end (by rfl) ?_
  refine eX_then ?_
  refine cW_ret ?_
  refine eX_then_ret ?_
  have hq : (some (([], 0, false)) : Option ((List (List (Int))) × (Int) × (Bool))) = some _ := hm
  replace hq := someE hq
  subst hq
  refine eX_ret (vs := [.slice none 0 0, .int .i64 (0), .bool (false)]) [.tmp 2, .tmp 3, .tmp 4] (by rfl) ⟨by (show lkE _ _ _ = _); kernel_rfl, ⟨by (show lkE _ _ _ = _); kernel_rfl, ⟨by (show lkE _ _ _ = _); kernel_rfl, trivial⟩⟩⟩ ?_
  exact ⟨none, 0, [], rfl, (OwR.nil (k := 1) (enc := encI) (T := 0) (T2 := 0) _).slr encI_ok, Rt.nil, (Nat.le_refl _), hB⟩
 ·have hm := condF hb1 hm
  rewrite [hb1]
  refine wS_pure 4 [(16, .bool (decide ((((l0).length : Int)) > 5))), (15, .bool (decide ((((l0).length : Int)) > 5))), (14, .int .i64 (((l0).length : Int))), (13, .slice A0 (l0).length cap0)] (by kernel_rfl) ?_
  refine wS_end (by rfl) ?_
  refine eX_then ?_
  refine cW_cond (t := decide ((((l0).length : Int)) > 5)) (by kernel_rfl) (fun hb2 => ?_) (fun hb2 => ?_)
  ·have hm := condT hb2 hm
   refine cW_seq ?_
   refine cW_region ?_
   refine wS_pure 3 [(4, .bool (false)), (3, .int .i64 (0)), (2, .slice none 0 0)] (by kernel_rfl) ?_
   refine wS_end (by rfl) ?_
   refine eX_then ?_
   refine cW_ret ?_
   refine eX_then_ret ?_
   have hq : (some (([], 0, false)) : Option ((List (List (Int))) × (Int) × (Bool))) = some _ := hm
   replace hq := someE hq
   subst hq
   refine eX_ret (vs := [.slice none 0 0, .int .i64 (0), .bool (false)]) [.tmp 2, .tmp 3, .tmp 4] (by rfl) ⟨by (show lkE _ _ _ = _); kernel_rfl, ⟨by (show lkE _ _ _ = _); kernel_rfl, ⟨by (show lkE _ _ _ = _); kernel_rfl, trivial⟩⟩⟩ ?_
   exact ⟨none, 0, [], rfl, (OwR.nil (k := 1) (enc := encI) (T := 0) (T2 := 0) _).slr encI_ok, Rt.nil, (Nat.le_refl _), hB⟩
  ·have hm := condF hb2 hm
   refine cW_skip ?_
   refine eX_then ?_
   refine cW_seq ?_
   refine cW_region ?_
   refine wS_bs0 (α := Int) (enc := encI) (d := 17) (t := 32) (T := 2) (by kernel_rfl) el32 ?_
   intro b1 w2 G1 F1 hc2
   replace F0 := F0.chg hc2 Dj.nil
   replace hB := hB.inS hc2 inNil
   replace G1 := Nat.le_trans hZ G1
   replace G1 := low1 G1
   replace hZ := Nat.le_trans hZ hc2.size
   refine wS_pure 1 [(5, .slice (some ⟨b1, 0, none⟩) (([] : List (Int))).length 0)] (by kernel_rfl) ?_
   refine wS_end (by rfl) ?_
   refine eX_then ?_
   refine cW_seq ?_
   refine cW_seq ?_
   refine cW_region ?_
   refine wS_pure 1 [(6, .int .i64 (0))] (by kernel_rfl) ?_
   refine wS_end (by rfl) ?_
   refine eX_then ?_
   obtain ⟨r1, hr1, hm⟩ := bindE hm
   have hm1 := hm
   refine cW_cut (fun a' w' => ∃ l1 : List (Int), ∃ A1 : Option Addr, ∃ cap1 : Nat, ∃ fp1 : List Nat, l1 = r1 ∧ Fr 37 [(0, .slice A0 (l0).length cap0), (5, .slice A1 (l1).length cap1)] a' ∧ Sl 2 encII w' fp0 A0 l0 ∧ Ow 1 encI 2 w' fp1 A1 cap1 l1 ∧ (∀ x ∈ fp1, w0.heap.size ≤ x) ∧ Chg [] w0 w' ∧ w0.heap.size ≤ w'.heap.size) ?_ ?_
   ·refine cW_block ?_
    refine cW_loop _ (fun (s1 : (List (Int)) × Int) a' w' => ∃ l3 : List (Int), ∃ A3 : Option Addr, ∃ cap3 : Nat, ∃ fp2 : List Nat, ∃ x1 : Int, (l3, x1) = s1 ∧ Fr 37 [(0, .slice A0 (l0).length cap0), (5, .slice A3 (l3).length cap3), (6, .int .i64 (x1))] a' ∧ Sl 2 encII w' fp0 A0 l0 ∧ Ow 1 encI 2 w' fp2 A3 cap3 l3 ∧ (∀ x ∈ fp2, w0.heap.size ≤ x) ∧ Chg [] w0 w' ∧ w0.heap.size ≤ w'.heap.size) hr1 (fun hst => ⟨([] : List (Int)), (some ⟨b1, 0, none⟩), 0, [b1], 0, rfl, Fr.of hst (by kernel_rfl), F0, F1, G1, hB, hZ⟩) ?_
    rintro _ c1 a' w3 ⟨l3, A3, cap3, fp2, x1, rfl, hF1, F2, F3, G2, hB, hZ⟩ hx1
    refine Fr.goOn hF1 (by kernel_rfl) ?_
    have hm := hx1
    unfold m_spec_BestJoins_s1 at hm
    refine cW_seq ?_
    refine cW_seq ?_
    refine cW_region ?_
    refine wS_pure 4 [(21, .bool (decide (x1 < (((l0).length : Int))))), (20, .int .i64 (((l0).length : Int))), (19, .slice A0 (l0).length cap0), (18, .int .i64 (x1))] (by kernel_rfl) ?_
    refine wS_end (by rfl) ?_
    refine eX_then ?_
    refine cW_cond (t := decide (x1 < (((l0).length : Int)))) (by kernel_rfl) (fun hb3 => ?_) (fun hb3 => ?_)
    ·have hm := condT hb3 hm
     refine cW_skip ?_
     refine eX_then ?_
     refine cW_seq ?_
     refine cW_block ?_
     refine cW_region ?_
     refine wS_pure 2 [(25, .int .i64 (x1)), (24, .slice A3 (l3).length cap3)] (by kernel_rfl) ?_
     refine wS_bs (enc := encI) ([x1] : List (Int)) [.int .i64 (x1)] (d := 26) (t := 32) (T := 2) (n := 1) (ps := [(0, .int .i64 (x1))]) (by kernel_rfl) el32 encI_ok (by rfl) (by omega) (by omega) (by kernel_rfl) (by rfl) ?_
     intro b2 w4 G3 F4 hc3
     have D1 : Dj fp2 [b2] := Dj.of F3.low (low1 G3)
     replace F2 := F2.chg hc3 Dj.nil
     replace F3 := F3.chg hc3 Dj.nil
     replace hB := hB.inS hc3 inNil
     replace G3 := Nat.le_trans hZ G3
     replace G3 := low1 G3
     replace hZ := Nat.le_trans hZ hc3.size
     obtain ⟨_, hk1, hm⟩ := bindE hm
     replace hk1 := apE hk1
     refine wS_append (enc := encI) (l := (l3 : List (Int))) (l2 := (([x1] : List (Int)) : List (Int))) (d := 27) (t := 32) (T := 2) (A := A3) (A2 := (some ⟨b2, 0, none⟩)) (cap := cap3) (cap2 := 1) (by kernel_rfl) el32 encI_ok F3 (F4.sl encI_ok) (by rfl) hk1 ?_
     intro w5 fp3 A4 cap4 F5 hc4 hp1
     have G4 := low_ap G2 hZ hp1
     have D2 : Dj [b2] fp3 := Dj.ap (D1).symm F4.low hp1
     replace F2 := F2.chg hc4 (Dj.of L0 G2)
     replace F4 := F4.chg hc4 (D1).symm
     replace hB := hB.inS hc4 (inLow G2)
     replace hZ := Nat.le_trans hZ hc4.size
     refine wS_pure 1 [(5, .slice A4 (l3 ++ (([x1] : List (Int)))).length cap4)] (by kernel_rfl) ?_
     refine wS_end (by rfl) ?_
     refine eX_block ?_
     refine eX_then ?_
     refine cW_region ?_
     refine wS_pure 3 [(6, .int .i64 (wr (x1 + 1))), (23, .int .i64 (wr (x1 + 1))), (22, .int .i64 (x1))] (by kernel_rfl) ?_
     refine wS_end (by rfl) ?_
     have hq : (some (Ctl.next ((l3 ++ (([x1] : List (Int))), wr (x1 + 1)))) : Option (Ctl ((List (Int)) × Int) ((List (Int))))) = some _ := hm
     replace hq := someE hq
     subst hq
     exact eX_next hx1 (fun hst => ⟨l3 ++ (([x1] : List (Int))), A4, cap4, fp3, wr (x1 + 1), rfl, Fr.of hst (by kernel_rfl), F2, F5, G4, hB, hZ⟩)
    ·have hm := condF hb3 hm
     refine cW_exit ?_
     refine eX_then_exit ?_
     have hq : (some (Ctl.out l3) : Option (Ctl ((List (Int)) × Int) ((List (Int))))) = some _ := hm
     replace hq := someE hq
     subst hq
     refine eX_outX hx1 (fun hr2 => ?_)
     replace hr2 := hr2.symm
     subst hr2
     refine eX_block_hit ?_
     exact eX_J (fun hst => ⟨l3, A3, cap3, fp2, rfl, Fr.of hst (by kernel_rfl), F2, F3, G2, hB, hZ⟩)
   ·rintro a' w6 ⟨l1, A1, cap1, fp1, hJ, hF2, F6, F7, G5, hB, hZ⟩
    subst hJ
    refine Fr.goX hF2 (by kernel_rfl) ?_
    refine eX_then ?_
    refine cW_seq ?_
    refine cW_region ?_
    refine wS_pure 1 [(29, .slice A0 (l0).length cap0)] (by kernel_rfl) ?_
    refine wS_rows0 (k := 1) (enc := encI) (d := 30) (t := 26) (T := 32) (T2 := 2) (by kernel_rfl) el26 ?_
    intro b3 w7 G6 F8 hc5
    have D3 : Dj fp1 ([b3] ++ []) := Dj.of F7.low (lowApp (low1 G6) lowNil)
    replace F6 := F6.chg hc5 Dj.nil
    replace F7 := F7.chg hc5 Dj.nil
    replace hB := hB.inS hc5 inNil
    replace G6 := Nat.le_trans hZ G6
    replace G6 := low1 G6
    replace hZ := Nat.le_trans hZ hc5.size
    replace G6 := lowApp G6 lowNil
    refine wS_pure 1 [(31, .slice A1 (l1).length cap1)] (by kernel_rfl) ?_
    obtain ⟨y2, hy2, hm⟩ := bindE hm
    refine wS_calls (d := 32) (f := 33) (vs := [.slice A0 (l0).length cap0, .slice (some ⟨b3, 0, none⟩) (([] : List (List (Int)))).length 0, .slice A1 (l1).length cap1]) (by kernel_rfl) ent33 (c_spec_l06Best 64 hy2 F6 (F8.slr encI_ok) (F8.hr encI_ok).cap_le (F7.sl encI_ok)) ?_
    rintro _ w8 ⟨A5, cap5, fp4, rfl, F9, G7, K1, hc6⟩
    have Rt1 : Rt w0.heap.size (fp0 ++ []) fp4 := Rt.of G7 hZ (Rt.app (Rt.mem (fun x hx => (List.mem_append_left _ hx))) (Rt.app (Rt.low G6) (Rt.app (Rt.low G5) Rt.nil)))
    replace F6 := F6.chg hc6 Dj.nil
    replace F7 := F7.chg hc6 Dj.nil
    replace F8 := F8.chg hc6 Dj.nil
    replace hB := hB.inS hc6 inNil
    replace hZ := Nat.le_trans hZ hc6.size
    refine ⟨.tuple #[.slice A5 (y2.1).length cap5, .int .i64 (y2.2)], rfl, ?_⟩
    refine wS_pure 5 [(8, .int .i64 (y2.2)), (7, .slice A5 (y2.1).length cap5), (34, .int .i64 (y2.2)), (33, .slice A5 (y2.1).length cap5), (28, .tuple #[.slice A5 (y2.1).length cap5, .int .i64 (y2.2)])] (by kernel_rfl) ?_
    refine wS_end (by rfl) ?_
    refine eX_then ?_
    refine cW_seq ?_
    refine cW_region ?_
    refine wS_pure 5 [(4, .bool (true)), (3, .int .i64 (y2.2)), (2, .slice A5 (y2.1).length cap5), (36, .int .i64 (y2.2)), (35, .slice A5 (y2.1).length cap5)] (by kernel_rfl) ?_
    refine wS_end (by rfl) ?_
    refine eX_then ?_
    refine cW_ret ?_
    have hq : (some ((y2.1, y2.2, true)) : Option ((List (List (Int))) × (Int) × (Bool))) = some _ := hm
    replace hq := someE hq
    subst hq
    refine eX_ret (vs := [.slice A5 (y2.1).length cap5, .int .i64 (y2.2), .bool (true)]) [.tmp 2, .tmp 3, .tmp 4] (by rfl) ⟨by (show lkE _ _ _ = _); kernel_rfl, ⟨by (show lkE _ _ _ = _); kernel_rfl, ⟨by (show lkE _ _ _ = _); kernel_rfl, trivial⟩⟩⟩ ?_
    exact ⟨A5, cap5, fp4, rfl, F9, Rt1, K1, hB⟩

set_option maxRecDepth 100000 in
/-- laws.toPoint -/
theorem c_laws_toPoint {w0 : World} {p0_0 : Int} {p0_1 : Int} {r : (Int × Int)} (hm : m_laws_toPoint p0_0 p0_1 = some r)  :
  Calls Try.prog 34 #[.agg #[.int .i64 (p0_0), .int .i64 (p0_1)]] w0 fun e w' => e = .returned (.agg #[.int .i64 (r.1), .int .i64 (r.2)]) ∧ Chg [] w0 w' := by
 have hB : Chg [] w0 w0 := Chg.refl _ _
 have hZ := Nat.le_refl w0.heap.size
 unfold m_laws_toPoint at hm
 refine enterE (N := 11) Try.func34 (by rfl) Try.ntmps34 (by simp) [(0, .agg #[.int .i64 (p0_0), .int .i64 (p0_1)])] (by rfl) (by kernel_rfl) (fun a => ?_)
 refine cW_seq ?_
 refine cW_region ?_
 refine wS_box (d := 1) (T := 73) (x := .agg #[.int .i64 (p0_0), .int .i64 (p0_1)]) (by kernel_rfl) ?_
 intro b1 w1 G1 F1 hc1
 replace F1 : Cl w1 b1 73 [.int .i64 (p0_0), .int .i64 (p0_1)] := F1
 replace hB := hB.inS hc1 inNil
 replace G1 := Nat.le_trans hZ G1
 replace hZ := Nat.le_trans hZ hc1.size
 refine wS_alloc (d := 2) (T := 49) (z := .agg #[.int .i64 (0), .int .i64 (0)]) (by kernel_rfl) (by kernel_rfl) ?_
 intro b2 w2 G2 F2 hc2
 replace F2 : Cl w2 b2 49 [.int .i64 (0), .int .i64 (0)] := F2
 have D1 : Dj [b1] [b2] := Dj.of (lt1 F1.lt) (low1 G2)
 replace F1 := F1.chg hc2 notNil
 replace hB := hB.inS hc2 inNil
 replace G2 := Nat.le_trans hZ G2
 replace hZ := Nat.le_trans hZ hc2.size
 refine wS_end (by rfl) ?_
 refine eX_then ?_
 refine cW_seq ?_
 refine cW_region ?_
 refine wS_alloc (d := 3) (T := 49) (z := .agg #[.int .i64 (0), .int .i64 (0)]) (by kernel_rfl) (by kernel_rfl) ?_
 intro b3 w3 G3 F3 hc3
 replace F3 : Cl w3 b3 49 [.int .i64 (0), .int .i64 (0)] := F3
 have D2 : Dj [b1] [b3] := Dj.of (lt1 F1.lt) (low1 G3)
 have D3 : Dj [b2] [b3] := Dj.of (lt1 F2.lt) (low1 G3)
 replace F1 := F1.chg hc3 notNil
 replace F2 := F2.chg hc3 notNil
 replace hB := hB.inS hc3 inNil
 replace G3 := Nat.le_trans hZ G3
 replace hZ := Nat.le_trans hZ hc3.size
 refine wS_end (by rfl) ?_
 refine eX_then ?_
 refine cW_seq ?_
 refine cW_region ?_
 refine wS_pure 1 [(4, .pointer (some ⟨b1, 0, none⟩))] (by kernel_rfl) ?_
 refine wS_load1 (d := 5) (T := 2) (ad := ⟨b1, 0, none⟩) (v := .int .i64 (p0_0)) (by kernel_rfl) vt2 ((F1).cell 0) ?_
 refine wS_pure 1 [(6, .pointer (some ⟨b3, 0, none⟩))] (by kernel_rfl) ?_
 refine wS_store (T := 2) (g := b3) (o := 0) (ad := ⟨b3, 0, none⟩) (v := .int .i64 (p0_0)) (vs := [.int .i64 (p0_0)]) (by kernel_rfl) (by rfl) sz2 (by rfl) (by rfl) F3 (by simp only [List.length_cons, List.length_nil]; omega) ?_
 intro w4 F4 hc4
 replace F1 := F1.chg hc4 (dj1 D2)
 replace F2 := F2.chg hc4 (dj1 D3)
 replace hB := hB.inS hc4 (inLow (low1 G3))
 replace hZ := Nat.le_trans hZ hc4.size
 replace F4 : Cl w4 b3 49 [.int .i64 (p0_0), .int .i64 (0)] := F4
 clear F3
 refine wS_end (by rfl) ?_
 refine eX_then ?_
 refine cW_seq ?_
 refine cW_region ?_
 refine wS_pure 1 [(7, .pointer (some ⟨b1, 1, none⟩))] (by kernel_rfl) ?_
 refine wS_load1 (d := 8) (T := 2) (ad := ⟨b1, 1, none⟩) (v := .int .i64 (p0_1)) (by kernel_rfl) vt2 ((F1).cell 1) ?_
 refine wS_pure 1 [(9, .pointer (some ⟨b3, 1, none⟩))] (by kernel_rfl) ?_
 refine wS_store (T := 2) (g := b3) (o := 1) (ad := ⟨b3, 1, none⟩) (v := .int .i64 (p0_1)) (vs := [.int .i64 (p0_1)]) (by kernel_rfl) (by rfl) sz2 (by rfl) (by rfl) F4 (by simp only [List.length_cons, List.length_nil]; omega) ?_
 intro w5 F5 hc5
 replace F1 := F1.chg hc5 (dj1 D2)
 replace F2 := F2.chg hc5 (dj1 D3)
 replace hB := hB.inS hc5 (inLow (low1 G3))
 replace hZ := Nat.le_trans hZ hc5.size
 replace F5 : Cl w5 b3 49 [.int .i64 (p0_0), .int .i64 (p0_1)] := F5
 clear F4
 refine wS_end (by rfl) ?_
 refine eX_then ?_
 refine cW_seq ?_
 refine cW_region ?_
 refine wS_loadA (d := 10) (T := 49) (ad := ⟨b3, 0, none⟩) (vs := [.int .i64 (p0_0), .int .i64 (p0_1)]) (by kernel_rfl) vt49 (fun i u hu => box_cells F5 0 hu (by rfl)) ?_
 refine wS_store (T := 49) (g := b2) (o := 0) (ad := ⟨b2, 0, none⟩) (v := .agg #[.int .i64 (p0_0), .int .i64 (p0_1)]) (vs := [.int .i64 (p0_0), .int .i64 (p0_1)]) (by kernel_rfl) (by rfl) sz49 (by rfl) (by rfl) F2 (by simp only [List.length_cons, List.length_nil]; omega) ?_
 intro w6 F6 hc6
 replace F1 := F1.chg hc6 (dj1 D1)
 replace F5 := F5.chg hc6 (dj1 (D3).symm)
 replace hB := hB.inS hc6 (inLow (low1 G2))
 replace hZ := Nat.le_trans hZ hc6.size
 replace F6 : Cl w6 b2 49 [.int .i64 (p0_0), .int .i64 (p0_1)] := F6
 clear F2
 refine wS_end (by rfl) ?_
 refine eX_then ?_
 refine cW_ret ?_
 have hq : (some ((p0_0, p0_1)) : Option ((Int × Int))) = some _ := hm
 replace hq := someE hq
 subst hq
 refine eX_ret (vs := [.agg #[.int .i64 (p0_0), .int .i64 (p0_1)]]) [.cell 2 49] (by rfl) ⟨⟨⟨b2, 0, none⟩, by kernel_rfl, run_loadVarA (vs := [.int .i64 (p0_0), .int .i64 (p0_1)]) vt49 (fun i u hu => by exact box_cells F6 0 hu (by rfl))⟩, trivial⟩ ?_
 exact ⟨rfl, hB⟩

set_option maxRecDepth 100000 in
/-- laws.toPointS -/
theorem c_laws_toPointS {w0 : World} {l0 : List (Int × Int)} {A0 : Option Addr} {cap0 : Nat} {fp0 : List Nat} {r : (List (Int × Int))} (hm : m_laws_toPointS l0 = some r) (F0 : Sl 2 encII w0 fp0 A0 l0) :
  Calls Try.prog 15 #[.slice A0 (l0).length cap0] w0 fun e w' => ∃ A100 cap100 fp100, e = .returned (.slice A100 (r).length cap100) ∧ Ow 2 encII 49 w' fp100 A100 cap100 r ∧ (∀ x ∈ fp100, w0.heap.size ≤ x) ∧ Chg [] w0 w' := by
 have L0 := F0.low
 have hB : Chg [] w0 w0 := Chg.refl _ _
 have hZ := Nat.le_refl w0.heap.size
 unfold m_laws_toPointS at hm
 refine enterE (N := 23) Try.func15 (by rfl) Try.ntmps15 (by simp) [(0, .slice A0 (l0).length cap0)] (by rfl) (by kernel_rfl) (fun a => ?_)
 refine cW_seq ?_
 refine cW_region ?_
 refine wS_pure 1 [(2, .slice none 0 0)] (by kernel_rfl) ?_
 refine wS_end (by rfl) ?_
 refine eX_then ?_
 refine cW_seq ?_
 refine cW_region ?_
 refine wS_pure 2 [(6, .int .i64 (((l0).length : Int))), (5, .slice A0 (l0).length cap0)] (by kernel_rfl) ?_
 obtain ⟨_, hk1, hm⟩ := bindE hm
 replace hk1 := mkE hk1
 refine wS_make (enc := encII) (x0 := ((0, 0) : Int × Int)) (d := 7) (t := 24) (T := 49) (k1 := .i64) (k2 := .i64) (m := ((l0).length : Int)) (by kernel_rfl) el24 encII_ok (by rfl) hk1.1 hk1.2 ?_
 intro b1 w1 G1 F1 hc1
 replace F0 := F0.chg hc1 Dj.nil
 replace hB := hB.inS hc1 inNil
 replace G1 := Nat.le_trans hZ G1
 replace G1 := low1 G1
 replace hZ := Nat.le_trans hZ hc1.size
 refine wS_pure 1 [(3, .slice (some ⟨b1, 0, none⟩) (List.replicate (Int.toNat (((l0).length : Int))) (((0, 0) : Int × Int))).length (Int.toNat (((l0).length : Int))))] (by kernel_rfl) ?_
 refine wS_end (by rfl) ?_
 refine eX_then ?_
 refine cW_seq ?_
 refine cW_seq ?_
 refine cW_region ?_
 refine wS_pure 1 [(4, .int .i64 (0))] (by kernel_rfl) ?_
 refine wS_end (by rfl) ?_
 refine eX_then ?_
 obtain ⟨r1, hr1, hm⟩ := bindE hm
 have hm1 := hm
 refine cW_cut (fun a' w' => ∃ l1 : List (Int × Int), l1 = r1 ∧ Fr 23 [(3, .slice (some ⟨b1, 0, none⟩) (l1).length (Int.toNat (((l0).length : Int))))] a' ∧ Ow 2 encII 49 w' [b1] (some ⟨b1, 0, none⟩) (Int.toNat (((l0).length : Int))) l1 ∧ Chg [] w0 w' ∧ w0.heap.size ≤ w'.heap.size) ?_ ?_
 ·refine cW_block ?_
  refine cW_loop _ (fun (s1 : Int × (List (Int × Int))) a' w' => ∃ x1 : Int, ∃ l2 : List (Int × Int), (x1, l2) = s1 ∧ Fr 23 [(0, .slice A0 (l0).length cap0), (3, .slice (some ⟨b1, 0, none⟩) (l2).length (Int.toNat (((l0).length : Int)))), (4, .int .i64 (x1))] a' ∧ Sl 2 encII w' fp0 A0 l0 ∧ Ow 2 encII 49 w' [b1] (some ⟨b1, 0, none⟩) (Int.toNat (((l0).length : Int))) l2 ∧ Chg [] w0 w' ∧ w0.heap.size ≤ w'.heap.size) hr1 (fun hst => ⟨0, List.replicate (Int.toNat (((l0).length : Int))) (((0, 0) : Int × Int)), rfl, Fr.of hst (by kernel_rfl), F0, F1, hB, hZ⟩) ?_
  rintro _ c1 a' w2 ⟨x1, l2, rfl, hF1, F2, F3, hB, hZ⟩ hx1
  refine Fr.goOn hF1 (by kernel_rfl) ?_
  have hm := hx1
  unfold m_laws_toPointS_s1 at hm
  refine cW_seq ?_
  refine cW_seq ?_
  refine cW_region ?_
  refine wS_pure 4 [(11, .bool (decide (x1 < (((l0).length : Int))))), (10, .int .i64 (((l0).length : Int))), (9, .slice A0 (l0).length cap0), (8, .int .i64 (x1))] (by kernel_rfl) ?_
  refine wS_end (by rfl) ?_
  refine eX_then ?_
  refine cW_cond (t := decide (x1 < (((l0).length : Int)))) (by kernel_rfl) (fun hb1 => ?_) (fun hb1 => ?_)
  ·have hm := condT hb1 hm
   refine cW_skip ?_
   refine eX_then ?_
   refine cW_seq ?_
   refine cW_block ?_
   refine cW_region ?_
   refine wS_pure 4 [(17, .int .i64 (x1)), (16, .slice A0 (l0).length cap0), (15, .int .i64 (x1)), (14, .slice (some ⟨b1, 0, none⟩) (l2).length (Int.toNat (((l0).length : Int))))] (by kernel_rfl) ?_
   obtain ⟨x2, hx2, hm⟩ := bindE hm
   refine wS_idx (d := 18) (T := 37) (A := A0) (n := (l0).length) (cap := cap0) (kd := .i64) (m := x1) (by kernel_rfl) sl37 (F2.is hx2) ?_
   refine wS_loadA (d := 19) (T := 73) (ad := (elA A0 2 (x1) 0)) (vs := [.int .i64 (x2.1), .int .i64 (x2.2)]) (by kernel_rfl) vt73 (fun i u hu => Sl.cells_at F2 hx2 0 hu (by rfl)) ?_
   obtain ⟨y1, hy1, hm⟩ := bindE hm
   refine wS_calls (d := 20) (f := 34) (vs := [.agg #[.int .i64 (x2.1), .int .i64 (x2.2)]]) (by kernel_rfl) ent34 (c_laws_toPoint hy1) ?_
   rintro _ w3 ⟨rfl, hc2⟩
   replace F2 := F2.chg hc2 Dj.nil
   replace F3 := F3.chg hc2 Dj.nil
   replace hB := hB.inS hc2 inNil
   replace hZ := Nat.le_trans hZ hc2.size
   refine ⟨.agg #[.int .i64 (y1.1), .int .i64 (y1.2)], rfl, ?_⟩
   obtain ⟨x3, hx3, hm⟩ := bindE hm
   refine wS_idx (d := 21) (T := 24) (A := (some ⟨b1, 0, none⟩)) (n := (l2).length) (cap := (Int.toNat (((l0).length : Int)))) (kd := .i64) (m := x1) (by kernel_rfl) sl24 ((F3.sl encII_ok).is hx3) ?_
   refine wS_storeEl (x := x3) ((y1.1, y1.2)) (T := 49) (U := 49) (cap := (Int.toNat (((l0).length : Int)))) (j := 0) (A := (some ⟨b1, 0, none⟩)) (v := .agg #[.int .i64 (y1.1), .int .i64 (y1.2)]) (vs := [.int .i64 (y1.1), .int .i64 (y1.2)]) (m := x1) (by kernel_rfl) (by rfl) sz49 (by rfl) encII_ok F3 hx3 (by simp only [List.length_cons, List.length_nil]; omega) (by rfl) ?_
   intro w4 F4 hc3
   replace F2 := F2.chg hc3 (Dj.of L0 G1)
   replace hB := hB.inS hc3 (inLow G1)
   replace hZ := Nat.le_trans hZ hc3.size
   clear F3
   rewrite [show (l2).length = (l2.set (Int.toNat x1) ((y1.1, y1.2))).length from (List.length_set ..).symm]
   refine wS_end (by rfl) ?_
   refine eX_block ?_
   refine eX_then ?_
   refine cW_region ?_
   refine wS_pure 3 [(4, .int .i64 (wr (x1 + 1))), (13, .int .i64 (wr (x1 + 1))), (12, .int .i64 (x1))] (by kernel_rfl) ?_
   refine wS_end (by rfl) ?_
   have hq : (some (Ctl.next ((wr (x1 + 1), l2.set (Int.toNat x1) ((y1.1, y1.2))))) : Option (Ctl (Int × (List (Int × Int))) ((List (Int × Int))))) = some _ := hm
   replace hq := someE hq
   subst hq
   exact eX_next hx1 (fun hst => ⟨wr (x1 + 1), l2.set (Int.toNat x1) ((y1.1, y1.2)), rfl, Fr.of hst (by kernel_rfl), F2, F4, hB, hZ⟩)
  ·have hm := condF hb1 hm
   refine cW_exit ?_
   refine eX_then_exit ?_
   have hq : (some (Ctl.out l2) : Option (Ctl (Int × (List (Int × Int))) ((List (Int × Int))))) = some _ := hm
   replace hq := someE hq
   subst hq
   refine eX_outX hx1 (fun hr2 => ?_)
   replace hr2 := hr2.symm
   subst hr2
   refine eX_block_hit ?_
   exact eX_J (fun hst => ⟨l2, rfl, Fr.of hst (by kernel_rfl), F3, hB, hZ⟩)
 ·rintro a' w5 ⟨l1, hJ, hF2, F5, hB, hZ⟩
  subst hJ
  refine Fr.goX hF2 (by kernel_rfl) ?_
  refine eX_then ?_
  refine cW_seq ?_
  refine cW_region ?_
  refine wS_pure 2 [(2, .slice (some ⟨b1, 0, none⟩) (l1).length (Int.toNat (((l0).length : Int)))), (22, .slice (some ⟨b1, 0, none⟩) (l1).length (Int.toNat (((l0).length : Int))))] (by kernel_rfl) ?_
  refine wS_end (by rfl) ?_
  refine eX_then ?_
  refine cW_ret ?_
  have hq : (some l1 : Option ((List (Int × Int)))) = some _ := hm
  replace hq := someE hq
  subst hq
  refine eX_ret (vs := [.slice (some ⟨b1, 0, none⟩) (l1).length (Int.toNat (((l0).length : Int)))]) [.tmp 2] (by rfl) ⟨by (show lkE _ _ _ = _); kernel_rfl, trivial⟩ ?_
  exact ⟨(some ⟨b1, 0, none⟩), (Int.toNat (((l0).length : Int))), [b1], rfl, F5, G1, hB⟩

set_option maxRecDepth 100000 in
/-- laws.eqInt64S -/
theorem c_laws_eqInt64S {w0 : World} {l0 : List (Int)} {A0 : Option Addr} {cap0 : Nat} {fp0 : List Nat} {l1 : List (Int)} {A1 : Option Addr} {cap1 : Nat} {fp1 : List Nat} {r : (Bool)} (hm : m_laws_eqInt64S l0 l1 = some r) (F0 : Sl 1 encI w0 fp0 A0 l0) (F1 : Sl 1 encI w0 fp1 A1 l1) :
  Calls Try.prog 35 #[.slice A0 (l0).length cap0, .slice A1 (l1).length cap1] w0 fun e w' => e = .returned (.bool (r)) ∧ Chg [] w0 w' := by
 have L0 := F0.low
 have L1 := F1.low
 have hB : Chg [] w0 w0 := Chg.refl _ _
 have hZ := Nat.le_refl w0.heap.size
 unfold m_laws_eqInt64S at hm
 refine enterE (N := 26) Try.func35 (by rfl) Try.ntmps35 (by simp) [(0, .slice A0 (l0).length cap0), (1, .slice A1 (l1).length cap1)] (by rfl) (by kernel_rfl) (fun a => ?_)
 refine cW_seq ?_
 refine cW_region ?_
 refine wS_pure 1 [(4, .bool (false))] (by kernel_rfl) ?_
 refine wS_end (by rfl) ?_
 refine eX_then ?_
 refine cW_seq ?_
 refine cW_seq ?_
 refine cW_region ?_
 refine wS_pure 5 [(10, .bool ((((l0).length : Int)) != (((l1).length : Int)))), (9, .int .i64 (((l1).length : Int))), (8, .slice A1 (l1).length cap1), (7, .int .i64 (((l0).length : Int))), (6, .slice A0 (l0).length cap0)] (by kernel_rfl) ?_
 refine wS_end (by rfl) ?_
 refine eX_then ?_
 refine cW_cond (t := (((l0).length : Int)) != (((l1).length : Int))) (by kernel_rfl) (fun hb1 => ?_) (fun hb1 => ?_)
 ·have hm := condT hb1 hm
  refine cW_seq ?_
  refine cW_region ?_
  refine wS_pure 1 [(4, .bool (false))] (by kernel_rfl) ?_
  refine wS_end (by rfl) ?_
  refine eX_then ?_
  refine cW_ret ?_
  refine eX_then_ret ?_
  have hq : (some false : Option ((Bool))) = some _ := hm
  replace hq := someE hq
  subst hq
  refine eX_ret (vs := [.bool (false)]) [.tmp 4] (by rfl) ⟨by (show lkE _ _ _ = _); kernel_rfl, trivial⟩ ?_
  exact ⟨rfl, hB⟩
 ·have hm := condF hb1 hm
  refine cW_skip ?_
  refine eX_then ?_
  refine cW_seq ?_
  refine cW_seq ?_
  refine cW_region ?_
  refine wS_pure 1 [(5, .int .i64 (0))] (by kernel_rfl) ?_
  refine wS_end (by rfl) ?_
  refine eX_then ?_
  obtain ⟨r1, hr1, hm⟩ := bindE hm
  have hm1 := hm
  refine cW_cut (fun a' w' => Sum.inl (()) = r1 ∧ Fr 26 [] a' ∧ Chg [] w0 w' ∧ w0.heap.size ≤ w'.heap.size) ?_ ?_
  ·refine cW_block ?_
   refine cW_loop _ (fun (s1 : Int) a' w' => ∃ x1 : Int, x1 = s1 ∧ Fr 26 [(0, .slice A0 (l0).length cap0), (1, .slice A1 (l1).length cap1), (5, .int .i64 (x1))] a' ∧ Sl 1 encI w' fp0 A0 l0 ∧ Sl 1 encI w' fp1 A1 l1 ∧ Chg [] w0 w' ∧ w0.heap.size ≤ w'.heap.size) hr1 (fun hst => ⟨0, rfl, Fr.of hst (by kernel_rfl), F0, F1, hB, hZ⟩) ?_
   rintro _ c1 a' w1 ⟨x1, rfl, hF1, F2, F3, hB, hZ⟩ hx1
   refine Fr.goOn hF1 (by kernel_rfl) ?_
   have hm := hx1
   unfold m_laws_eqInt64S_s1 at hm
   refine cW_seq ?_
   refine cW_seq ?_
   refine cW_region ?_
   refine wS_pure 4 [(14, .bool (decide (x1 < (((l0).length : Int))))), (13, .int .i64 (((l0).length : Int))), (12, .slice A0 (l0).length cap0), (11, .int .i64 (x1))] (by kernel_rfl) ?_
   refine wS_end (by rfl) ?_
   refine eX_then ?_
   refine cW_cond (t := decide (x1 < (((l0).length : Int)))) (by kernel_rfl) (fun hb2 => ?_) (fun hb2 => ?_)
   ·have hm := condT hb2 hm
    refine cW_skip ?_
    refine eX_then ?_
    refine cW_seq ?_
    refine cW_block ?_
    refine cW_seq ?_
    refine cW_drawnTail [] 8 (by kernel_rfl) (by kernel_rfl) (fun w2 hc1 => ?_)
    replace F2 := F2.chg hc1 Dj.nil
    replace F3 := F3.chg hc1 Dj.nil
    replace hB := hB.inS hc1 inNil
    replace hZ := Nat.le_trans hZ hc1.size
    have hS := Chg.refl [] w2
    have Z1 := F2
    have Z2 := F3
    refine wH_take [0, 1] [1, 0] [(18, .int .i64 (x1)), (17, .slice A0 (l0).length cap0)] (by kernel_rfl) (qT (qT (qB (qT (qL (qB (qT (qT qZ)))))))) (by kernel_rfl) ?_
    obtain ⟨x2, hx2, hm⟩ := bindE hm
    refine wH_idx (i := 2) (d := 19) (T := 32) (A := A0) (n := (l0).length) (cap := cap0) (kd := .i64) (m := x1) (by kernel_rfl) (qT (qT (qB (qT (qL (qB (qT (qT qZ)))))))) (by kernel_rfl) (by kernel_rfl) sl32 (F2.is hx2) ?_
    refine wH_load1 (i := 3) (d := 20) (T := 2) (ad := (elA A0 1 (x1) 0)) (v := .int .i64 (x2)) (by kernel_rfl) (qT (qT (qB (qT (qL (qB (qT (qT qZ)))))))) (by kernel_rfl) (by kernel_rfl) vt2 (fun W hW => Sl.cell (Z1.chg hW Dj.nil) hx2 0 (by rfl)) ?_
    refine wH_take [4, 5] [5, 4, 3, 2, 1, 0] [(22, .int .i64 (x1)), (21, .slice A1 (l1).length cap1)] (by kernel_rfl) (qT (qT (qB (qT (qL (qB (qT (qT qZ)))))))) (by kernel_rfl) ?_
    obtain ⟨x3, hx3, hm⟩ := bindE hm
    refine wH_idx (i := 6) (d := 23) (T := 32) (A := A1) (n := (l1).length) (cap := cap1) (kd := .i64) (m := x1) (by kernel_rfl) (qT (qT (qB (qT (qL (qB (qT (qT qZ)))))))) (by kernel_rfl) (by kernel_rfl) sl32 (F3.is hx3) ?_
    refine wH_load1 (i := 7) (d := 24) (T := 2) (ad := (elA A1 1 (x1) 0)) (v := .int .i64 (x3)) (by kernel_rfl) (qT (qT (qB (qT (qL (qB (qT (qT qZ)))))))) (by kernel_rfl) (by kernel_rfl) vt2 (fun W hW => Sl.cell (Z2.chg hW Dj.nil) hx3 0 (by rfl)) ?_
    refine wH_done (by kernel_rfl) ?_
    refine eX_tail ?_
    refine wS_pure 1 [(25, .bool (x2 != x3))] (by kernel_rfl) ?_
    refine wS_end (by rfl) ?_
    refine eX_then ?_
    refine cW_cond (t := x2 != x3) (by kernel_rfl) (fun hb3 => ?_) (fun hb3 => ?_)
    ·have hm := condT hb3 hm
     refine cW_seq ?_
     refine cW_region ?_
     refine wS_pure 1 [(4, .bool (false))] (by kernel_rfl) ?_
     refine wS_end (by rfl) ?_
     refine eX_then ?_
     refine cW_ret ?_
     refine eX_block_ret ?_
     refine eX_then_ret ?_
     have hq : (some (Ctl.out (Sum.inr false)) : Option (Ctl (Int) (Sum (Unit) ((Bool))))) = some _ := hm
     replace hq := someE hq
     subst hq
     refine eX_outR hx1 (fun hr => ?_)
     subst hr
     refine eX_block_ret ?_
     refine eX_then_ret ?_
     refine eX_then_ret ?_
     have hq : (some false : Option ((Bool))) = some _ := hm1
     replace hq := someE hq
     subst hq
     refine eX_ret (vs := [.bool (false)]) [.tmp 4] (by rfl) ⟨by (show lkE _ _ _ = _); kernel_rfl, trivial⟩ ?_
     exact ⟨rfl, hB⟩
    ·have hm := condF hb3 hm
     refine cW_skip ?_
     refine eX_block ?_
     refine eX_then ?_
     refine cW_region ?_
     refine wS_pure 3 [(5, .int .i64 (wr (x1 + 1))), (16, .int .i64 (wr (x1 + 1))), (15, .int .i64 (x1))] (by kernel_rfl) ?_
     refine wS_end (by rfl) ?_
     have hq : (some (Ctl.next (wr (x1 + 1))) : Option (Ctl (Int) (Sum (Unit) ((Bool))))) = some _ := hm
     replace hq := someE hq
     subst hq
     exact eX_next hx1 (fun hst => ⟨wr (x1 + 1), rfl, Fr.of hst (by kernel_rfl), F2, F3, hB, hZ⟩)
   ·have hm := condF hb2 hm
    refine cW_exit ?_
    refine eX_then_exit ?_
    have hq : (some (Ctl.out (Sum.inl (()))) : Option (Ctl (Int) (Sum (Unit) ((Bool))))) = some _ := hm
    replace hq := someE hq
    subst hq
    refine eX_outX hx1 (fun hr2 => ?_)
    replace hr2 := hr2.symm
    subst hr2
    refine eX_block_hit ?_
    exact eX_J (fun hst => ⟨rfl, Fr.of hst (by kernel_rfl), hB, hZ⟩)
  ·rintro a' w3 ⟨hJ, hF2, hB, hZ⟩
   subst hJ
   refine Fr.goX hF2 (by kernel_rfl) ?_
   refine eX_then ?_
   refine cW_seq ?_
   refine cW_region ?_
   refine wS_pure 1 [(4, .bool (true))] (by kernel_rfl) ?_
   refine wS_end (by rfl) ?_
   refine eX_then ?_
   refine cW_ret ?_
   have hq : (some true : Option ((Bool))) = some _ := hm
   replace hq := someE hq
   subst hq
   refine eX_ret (vs := [.bool (true)]) [.tmp 4] (by rfl) ⟨by (show lkE _ _ _ = _); kernel_rfl, trivial⟩ ?_
   exact ⟨rfl, hB⟩

set_option maxRecDepth 100000 in
/-- laws.eqInt64SS -/
theorem c_laws_eqInt64SS {w0 : World} {l0 : List (List (Int))} {A0 : Option Addr} {cap0 : Nat} {fp0 : List Nat} {l1 : List (List (Int))} {A1 : Option Addr} {cap1 : Nat} {fp1 : List Nat} {r : (Bool)} (hm : m_laws_eqInt64SS l0 l1 = some r) (F0 : SlR 1 encI w0 fp0 A0 l0) (F1 : SlR 1 encI w0 fp1 A1 l1) :
  Calls Try.prog 16 #[.slice A0 (l0).length cap0, .slice A1 (l1).length cap1] w0 fun e w' => e = .returned (.bool (r)) ∧ Chg [] w0 w' := by
 have L0 := F0.low
 have L1 := F1.low
 have hB : Chg [] w0 w0 := Chg.refl _ _
 have hZ := Nat.le_refl w0.heap.size
 unfold m_laws_eqInt64SS at hm
 refine enterE (N := 27) Try.func16 (by rfl) Try.ntmps16 (by simp) [(0, .slice A0 (l0).length cap0), (1, .slice A1 (l1).length cap1)] (by rfl) (by kernel_rfl) (fun a => ?_)
 refine cW_seq ?_
 refine cW_region ?_
 refine wS_pure 1 [(4, .bool (false))] (by kernel_rfl) ?_
 refine wS_end (by rfl) ?_
 refine eX_then ?_
 refine cW_seq ?_
 refine cW_seq ?_
 refine cW_region ?_
 refine wS_pure 5 [(10, .bool ((((l0).length : Int)) != (((l1).length : Int)))), (9, .int .i64 (((l1).length : Int))), (8, .slice A1 (l1).length cap1), (7, .int .i64 (((l0).length : Int))), (6, .slice A0 (l0).length cap0)] (by kernel_rfl) ?_
 refine wS_end (by rfl) ?_
 refine eX_then ?_
 refine cW_cond (t := (((l0).length : Int)) != (((l1).length : Int))) (by kernel_rfl) (fun hb1 => ?_) (fun hb1 => ?_)
 ·have hm := condT hb1 hm
  refine cW_seq ?_
  refine cW_region ?_
  refine wS_pure 1 [(4, .bool (false))] (by kernel_rfl) ?_
  refine wS_end (by rfl) ?_
  refine eX_then ?_
  refine cW_ret ?_
  refine eX_then_ret ?_
  have hq : (some false : Option ((Bool))) = some _ := hm
  replace hq := someE hq
  subst hq
  refine eX_ret (vs := [.bool (false)]) [.tmp 4] (by rfl) ⟨by (show lkE _ _ _ = _); kernel_rfl, trivial⟩ ?_
  exact ⟨rfl, hB⟩
 ·have hm := condF hb1 hm
  refine cW_skip ?_
  refine eX_then ?_
  refine cW_seq ?_
  refine cW_seq ?_
  refine cW_region ?_
  refine wS_pure 1 [(5, .int .i64 (0))] (by kernel_rfl) ?_
  refine wS_end (by rfl) ?_
  refine eX_then ?_
  obtain ⟨r1, hr1, hm⟩ := bindE hm
  have hm1 := hm
  refine cW_cut (fun a' w' => Sum.inl (()) = r1 ∧ Fr 27 [] a' ∧ Chg [] w0 w' ∧ w0.heap.size ≤ w'.heap.size) ?_ ?_
  ·refine cW_block ?_
   refine cW_loop _ (fun (s1 : Int) a' w' => ∃ x1 : Int, x1 = s1 ∧ Fr 27 [(0, .slice A0 (l0).length cap0), (1, .slice A1 (l1).length cap1), (5, .int .i64 (x1))] a' ∧ SlR 1 encI w' fp0 A0 l0 ∧ SlR 1 encI w' fp1 A1 l1 ∧ Chg [] w0 w' ∧ w0.heap.size ≤ w'.heap.size) hr1 (fun hst => ⟨0, rfl, Fr.of hst (by kernel_rfl), F0, F1, hB, hZ⟩) ?_
   rintro _ c1 a' w1 ⟨x1, rfl, hF1, F2, F3, hB, hZ⟩ hx1
   refine Fr.goOn hF1 (by kernel_rfl) ?_
   have hm := hx1
   unfold m_laws_eqInt64SS_s1 at hm
   refine cW_seq ?_
   refine cW_seq ?_
   refine cW_region ?_
   refine wS_pure 4 [(14, .bool (decide (x1 < (((l0).length : Int))))), (13, .int .i64 (((l0).length : Int))), (12, .slice A0 (l0).length cap0), (11, .int .i64 (x1))] (by kernel_rfl) ?_
   refine wS_end (by rfl) ?_
   refine eX_then ?_
   refine cW_cond (t := decide (x1 < (((l0).length : Int)))) (by kernel_rfl) (fun hb2 => ?_) (fun hb2 => ?_)
   ·have hm := condT hb2 hm
    refine cW_skip ?_
    refine eX_then ?_
    refine cW_seq ?_
    refine cW_block ?_
    refine cW_seq ?_
    refine cW_drawnTail [] 8 (by kernel_rfl) (by kernel_rfl) (fun w2 hc1 => ?_)
    replace F2 := F2.chg hc1 Dj.nil
    replace F3 := F3.chg hc1 Dj.nil
    replace hB := hB.inS hc1 inNil
    replace hZ := Nat.le_trans hZ hc1.size
    have hS := Chg.refl [] w2
    have Z1 := F2
    have Z2 := F3
    refine wH_take [0, 1] [1, 0] [(18, .int .i64 (x1)), (17, .slice A0 (l0).length cap0)] (by kernel_rfl) (qT (qT (qB (qT (qL (qB (qT (qT qZ)))))))) (by kernel_rfl) ?_
    obtain ⟨x2, hx2, hm⟩ := bindE hm
    refine wH_idx (i := 2) (d := 19) (T := 26) (A := A0) (n := (l0).length) (cap := cap0) (kd := .i64) (m := x1) (by kernel_rfl) (qT (qT (qB (qT (qL (qB (qT (qT qZ)))))))) (by kernel_rfl) (by kernel_rfl) sl26 (F2.is hx2) ?_
    obtain ⟨A2, cap2, hc2, F4, K1⟩ := SlR.row Z1 hx2
    refine wH_load1 (i := 3) (d := 20) (T := 32) (ad := (elA A0 1 (x1) 0)) (v := .slice A2 (x2).length cap2) (by kernel_rfl) (qT (qT (qB (qT (qL (qB (qT (qT qZ)))))))) (by kernel_rfl) (by kernel_rfl) vt32 (fun W hW => hW.keep hc2) ?_
    refine wH_take [4, 5] [5, 4, 3, 2, 1, 0] [(22, .int .i64 (x1)), (21, .slice A1 (l1).length cap1)] (by kernel_rfl) (qT (qT (qB (qT (qL (qB (qT (qT qZ)))))))) (by kernel_rfl) ?_
    obtain ⟨x3, hx3, hm⟩ := bindE hm
    refine wH_idx (i := 6) (d := 23) (T := 26) (A := A1) (n := (l1).length) (cap := cap1) (kd := .i64) (m := x1) (by kernel_rfl) (qT (qT (qB (qT (qL (qB (qT (qT qZ)))))))) (by kernel_rfl) (by kernel_rfl) sl26 (F3.is hx3) ?_
    obtain ⟨A3, cap3, hc3, F5, K2⟩ := SlR.row Z2 hx3
    refine wH_load1 (i := 7) (d := 24) (T := 32) (ad := (elA A1 1 (x1) 0)) (v := .slice A3 (x3).length cap3) (by kernel_rfl) (qT (qT (qB (qT (qL (qB (qT (qT qZ)))))))) (by kernel_rfl) (by kernel_rfl) vt32 (fun W hW => hW.keep hc3) ?_
    refine wH_done (by kernel_rfl) ?_
    refine eX_tail ?_
    obtain ⟨y1, hy1, hm⟩ := bindE hm
    refine wS_calls (d := 25) (f := 35) (vs := [.slice A2 (x2).length cap2, .slice A3 (x3).length cap3]) (by kernel_rfl) ent35 (c_laws_eqInt64S hy1 F4 F5) ?_
    rintro _ w3 ⟨rfl, hc4⟩
    replace F2 := F2.chg hc4 Dj.nil
    replace F3 := F3.chg hc4 Dj.nil
    replace F4 := F4.chg hc4 Dj.nil
    replace F5 := F5.chg hc4 Dj.nil
    replace hB := hB.inS hc4 inNil
    replace hZ := Nat.le_trans hZ hc4.size
    refine ⟨.bool (y1), rfl, ?_⟩
    refine wS_pure 1 [(26, .bool (!y1))] (by kernel_rfl) ?_
    refine wS_end (by rfl) ?_
    refine eX_then ?_
    refine cW_cond (t := !y1) (by kernel_rfl) (fun hb3 => ?_) (fun hb3 => ?_)
    ·have hm := condT hb3 hm
     refine cW_seq ?_
     refine cW_region ?_
     refine wS_pure 1 [(4, .bool (false))] (by kernel_rfl) ?_
     refine wS_end (by rfl) ?_
     refine eX_then ?_
     refine cW_ret ?_
     refine eX_block_ret ?_
     refine eX_then_ret ?_
     have hq : (some (Ctl.out (Sum.inr false)) : Option (Ctl (Int) (Sum (Unit) ((Bool))))) = some _ := hm
     replace hq := someE hq
     subst hq
     refine eX_outR hx1 (fun hr => ?_)
     subst hr
     refine eX_block_ret ?_
     refine eX_then_ret ?_
     refine eX_then_ret ?_
     have hq : (some false : Option ((Bool))) = some _ := hm1
     replace hq := someE hq
     subst hq
     refine eX_ret (vs := [.bool (false)]) [.tmp 4] (by rfl) ⟨by (show lkE _ _ _ = _); kernel_rfl, trivial⟩ ?_
     exact ⟨rfl, hB⟩
    ·have hm := condF hb3 hm
     refine cW_skip ?_
     refine eX_block ?_
     refine eX_then ?_
     refine cW_region ?_
     refine wS_pure 3 [(5, .int .i64 (wr (x1 + 1))), (16, .int .i64 (wr (x1 + 1))), (15, .int .i64 (x1))] (by kernel_rfl) ?_
     refine wS_end (by rfl) ?_
     have hq : (some (Ctl.next (wr (x1 + 1))) : Option (Ctl (Int) (Sum (Unit) ((Bool))))) = some _ := hm
     replace hq := someE hq
     subst hq
     exact eX_next hx1 (fun hst => ⟨wr (x1 + 1), rfl, Fr.of hst (by kernel_rfl), F2, F3, hB, hZ⟩)
   ·have hm := condF hb2 hm
    refine cW_exit ?_
    refine eX_then_exit ?_
    have hq : (some (Ctl.out (Sum.inl (()))) : Option (Ctl (Int) (Sum (Unit) ((Bool))))) = some _ := hm
    replace hq := someE hq
    subst hq
    refine eX_outX hx1 (fun hr2 => ?_)
    replace hr2 := hr2.symm
    subst hr2
    refine eX_block_hit ?_
    exact eX_J (fun hst => ⟨rfl, Fr.of hst (by kernel_rfl), hB, hZ⟩)
  ·rintro a' w4 ⟨hJ, hF2, hB, hZ⟩
   subst hJ
   refine Fr.goX hF2 (by kernel_rfl) ?_
   refine eX_then ?_
   refine cW_seq ?_
   refine cW_region ?_
   refine wS_pure 1 [(4, .bool (true))] (by kernel_rfl) ?_
   refine wS_end (by rfl) ?_
   refine eX_then ?_
   refine cW_ret ?_
   have hq : (some true : Option ((Bool))) = some _ := hm
   replace hq := someE hq
   subst hq
   refine eX_ret (vs := [.bool (true)]) [.tmp 4] (by rfl) ⟨by (show lkE _ _ _ = _); kernel_rfl, trivial⟩ ?_
   exact ⟨rfl, hB⟩

set_option maxRecDepth 100000 in
/-- laws.eqPoint -/
theorem c_laws_eqPoint {w0 : World} {p0_0 : Int} {p0_1 : Int} {p1_0 : Int} {p1_1 : Int} {r : (Bool)} (hm : m_laws_eqPoint p0_0 p0_1 p1_0 p1_1 = some r)  :
  Calls Try.prog 36 #[.agg #[.int .i64 (p0_0), .int .i64 (p0_1)], .agg #[.int .i64 (p1_0), .int .i64 (p1_1)]] w0 fun e w' => e = .returned (.bool (r)) ∧ Chg [] w0 w' := by
 have hB : Chg [] w0 w0 := Chg.refl _ _
 have hZ := Nat.le_refl w0.heap.size
 unfold m_laws_eqPoint at hm
 refine enterE (N := 15) Try.func36 (by rfl) Try.ntmps36 (by simp) [(0, .agg #[.int .i64 (p0_0), .int .i64 (p0_1)]), (1, .agg #[.int .i64 (p1_0), .int .i64 (p1_1)])] (by rfl) (by kernel_rfl) (fun a => ?_)
 refine cW_seq ?_
 refine cW_region ?_
 refine wS_box (d := 2) (T := 49) (x := .agg #[.int .i64 (p0_0), .int .i64 (p0_1)]) (by kernel_rfl) ?_
 intro b1 w1 G1 F1 hc1
 replace F1 : Cl w1 b1 49 [.int .i64 (p0_0), .int .i64 (p0_1)] := F1
 replace hB := hB.inS hc1 inNil
 replace G1 := Nat.le_trans hZ G1
 replace hZ := Nat.le_trans hZ hc1.size
 refine wS_box (d := 3) (T := 49) (x := .agg #[.int .i64 (p1_0), .int .i64 (p1_1)]) (by kernel_rfl) ?_
 intro b2 w2 G2 F2 hc2
 replace F2 : Cl w2 b2 49 [.int .i64 (p1_0), .int .i64 (p1_1)] := F2
 have D1 : Dj [b1] [b2] := Dj.of (lt1 F1.lt) (low1 G2)
 replace F1 := F1.chg hc2 notNil
 replace hB := hB.inS hc2 inNil
 replace G2 := Nat.le_trans hZ G2
 replace hZ := Nat.le_trans hZ hc2.size
 refine wS_pure 1 [(4, .bool (false))] (by kernel_rfl) ?_
 refine wS_end (by rfl) ?_
 refine eX_then ?_
 refine cW_seq ?_
 refine cW_seq ?_
 refine cW_region ?_
 refine wS_pure 1 [(5, .pointer (some ⟨b1, 0, none⟩))] (by kernel_rfl) ?_
 refine wS_load1 (d := 6) (T := 2) (ad := ⟨b1, 0, none⟩) (v := .int .i64 (p0_0)) (by kernel_rfl) vt2 ((F1).cell 0) ?_
 refine wS_pure 1 [(7, .pointer (some ⟨b2, 0, none⟩))] (by kernel_rfl) ?_
 refine wS_load1 (d := 8) (T := 2) (ad := ⟨b2, 0, none⟩) (v := .int .i64 (p1_0)) (by kernel_rfl) vt2 ((F2).cell 0) ?_
 refine wS_pure 1 [(9, .bool (p0_0 != p1_0))] (by kernel_rfl) ?_
 refine wS_end (by rfl) ?_
 refine eX_then ?_
 refine cW_cond (t := p0_0 != p1_0) (by kernel_rfl) (fun hb1 => ?_) (fun hb1 => ?_)
 ·have hm := condT hb1 hm
  refine cW_seq ?_
  refine cW_region ?_
  refine wS_pure 1 [(4, .bool (false))] (by kernel_rfl) ?_
  refine wS_end (by rfl) ?_
  refine eX_then ?_
  refine cW_ret ?_
  refine eX_then_ret ?_
  have hq : (some false : Option ((Bool))) = some _ := hm
  replace hq := someE hq
  subst hq
  refine eX_ret (vs := [.bool (false)]) [.tmp 4] (by rfl) ⟨by (show lkE _ _ _ = _); kernel_rfl, trivial⟩ ?_
  exact ⟨rfl, hB⟩
 ·have hm := condF hb1 hm
  refine cW_skip ?_
  refine eX_then ?_
  refine cW_seq ?_
  refine cW_seq ?_
  refine cW_region ?_
  refine wS_pure 1 [(10, .pointer (some ⟨b1, 1, none⟩))] (by kernel_rfl) ?_
  refine wS_load1 (d := 11) (T := 2) (ad := ⟨b1, 1, none⟩) (v := .int .i64 (p0_1)) (by kernel_rfl) vt2 ((F1).cell 1) ?_
  refine wS_pure 1 [(12, .pointer (some ⟨b2, 1, none⟩))] (by kernel_rfl) ?_
  refine wS_load1 (d := 13) (T := 2) (ad := ⟨b2, 1, none⟩) (v := .int .i64 (p1_1)) (by kernel_rfl) vt2 ((F2).cell 1) ?_
  refine wS_pure 1 [(14, .bool (p0_1 != p1_1))] (by kernel_rfl) ?_
  refine wS_end (by rfl) ?_
  refine eX_then ?_
  refine cW_cond (t := p0_1 != p1_1) (by kernel_rfl) (fun hb2 => ?_) (fun hb2 => ?_)
  ·have hm := condT hb2 hm
   refine cW_seq ?_
   refine cW_region ?_
   refine wS_pure 1 [(4, .bool (false))] (by kernel_rfl) ?_
   refine wS_end (by rfl) ?_
   refine eX_then ?_
   refine cW_ret ?_
   refine eX_then_ret ?_
   have hq : (some false : Option ((Bool))) = some _ := hm
   replace hq := someE hq
   subst hq
   refine eX_ret (vs := [.bool (false)]) [.tmp 4] (by rfl) ⟨by (show lkE _ _ _ = _); kernel_rfl, trivial⟩ ?_
   exact ⟨rfl, hB⟩
  ·have hm := condF hb2 hm
   refine cW_skip ?_
   refine eX_then ?_
   refine cW_seq ?_
   refine cW_region ?_
   refine wS_pure 1 [(4, .bool (true))] (by kernel_rfl) ?_
   refine wS_end (by rfl) ?_
   refine eX_then ?_
   refine cW_ret ?_
   have hq : (some true : Option ((Bool))) = some _ := hm
   replace hq := someE hq
   subst hq
   refine eX_ret (vs := [.bool (true)]) [.tmp 4] (by rfl) ⟨by (show lkE _ _ _ = _); kernel_rfl, trivial⟩ ?_
   exact ⟨rfl, hB⟩

set_option maxRecDepth 100000 in
/-- laws.eqPointS -/
theorem c_laws_eqPointS {w0 : World} {l0 : List (Int × Int)} {A0 : Option Addr} {cap0 : Nat} {fp0 : List Nat} {l1 : List (Int × Int)} {A1 : Option Addr} {cap1 : Nat} {fp1 : List Nat} {r : (Bool)} (hm : m_laws_eqPointS l0 l1 = some r) (F0 : Sl 2 encII w0 fp0 A0 l0) (F1 : Sl 2 encII w0 fp1 A1 l1) :
  Calls Try.prog 17 #[.slice A0 (l0).length cap0, .slice A1 (l1).length cap1] w0 fun e w' => e = .returned (.bool (r)) ∧ Chg [] w0 w' := by
 have L0 := F0.low
 have L1 := F1.low
 have hB : Chg [] w0 w0 := Chg.refl _ _
 have hZ := Nat.le_refl w0.heap.size
 unfold m_laws_eqPointS at hm
 refine enterE (N := 27) Try.func17 (by rfl) Try.ntmps17 (by simp) [(0, .slice A0 (l0).length cap0), (1, .slice A1 (l1).length cap1)] (by rfl) (by kernel_rfl) (fun a => ?_)
 refine cW_seq ?_
 refine cW_region ?_
 refine wS_pure 1 [(4, .bool (false))] (by kernel_rfl) ?_
 refine wS_end (by rfl) ?_
 refine eX_then ?_
 refine cW_seq ?_
 refine cW_seq ?_
 refine cW_region ?_
 refine wS_pure 5 [(10, .bool ((((l0).length : Int)) != (((l1).length : Int)))), (9, .int .i64 (((l1).length : Int))), (8, .slice A1 (l1).length cap1), (7, .int .i64 (((l0).length : Int))), (6, .slice A0 (l0).length cap0)] (by kernel_rfl) ?_
 refine wS_end (by rfl) ?_
 refine eX_then ?_
 refine cW_cond (t := (((l0).length : Int)) != (((l1).length : Int))) (by kernel_rfl) (fun hb1 => ?_) (fun hb1 => ?_)
 ·have hm := condT hb1 hm
  refine cW_seq ?_
  refine cW_region ?_
  refine wS_pure 1 [(4, .bool (false))] (by kernel_rfl) ?_
  refine wS_end (by rfl) ?_
  refine eX_then ?_
  refine cW_ret ?_
  refine eX_then_ret ?_
  have hq : (some false : Option ((Bool))) = some _ := hm
  replace hq := someE hq
  subst hq
  refine eX_ret (vs := [.bool (false)]) [.tmp 4] (by rfl) ⟨by (show lkE _ _ _ = _); kernel_rfl, trivial⟩ ?_
  exact ⟨rfl, hB⟩
 ·have hm := condF hb1 hm
  refine cW_skip ?_
  refine eX_then ?_
  refine cW_seq ?_
  refine cW_seq ?_
  refine cW_region ?_
  refine wS_pure 1 [(5, .int .i64 (0))] (by kernel_rfl) ?_
  refine wS_end (by rfl) ?_
  refine eX_then ?_
  obtain ⟨r1, hr1, hm⟩ := bindE hm
  have hm1 := hm
  refine cW_cut (fun a' w' => Sum.inl (()) = r1 ∧ Fr 27 [] a' ∧ Chg [] w0 w' ∧ w0.heap.size ≤ w'.heap.size) ?_ ?_
  ·refine cW_block ?_
   refine cW_loop _ (fun (s1 : Int) a' w' => ∃ x1 : Int, x1 = s1 ∧ Fr 27 [(0, .slice A0 (l0).length cap0), (1, .slice A1 (l1).length cap1), (5, .int .i64 (x1))] a' ∧ Sl 2 encII w' fp0 A0 l0 ∧ Sl 2 encII w' fp1 A1 l1 ∧ Chg [] w0 w' ∧ w0.heap.size ≤ w'.heap.size) hr1 (fun hst => ⟨0, rfl, Fr.of hst (by kernel_rfl), F0, F1, hB, hZ⟩) ?_
   rintro _ c1 a' w1 ⟨x1, rfl, hF1, F2, F3, hB, hZ⟩ hx1
   refine Fr.goOn hF1 (by kernel_rfl) ?_
   have hm := hx1
   unfold m_laws_eqPointS_s1 at hm
   refine cW_seq ?_
   refine cW_seq ?_
   refine cW_region ?_
   refine wS_pure 4 [(14, .bool (decide (x1 < (((l0).length : Int))))), (13, .int .i64 (((l0).length : Int))), (12, .slice A0 (l0).length cap0), (11, .int .i64 (x1))] (by kernel_rfl) ?_
   refine wS_end (by rfl) ?_
   refine eX_then ?_
   refine cW_cond (t := decide (x1 < (((l0).length : Int)))) (by kernel_rfl) (fun hb2 => ?_) (fun hb2 => ?_)
   ·have hm := condT hb2 hm
    refine cW_skip ?_
    refine eX_then ?_
    refine cW_seq ?_
    refine cW_block ?_
    refine cW_seq ?_
    refine cW_drawnTail [] 8 (by kernel_rfl) (by kernel_rfl) (fun w2 hc1 => ?_)
    replace F2 := F2.chg hc1 Dj.nil
    replace F3 := F3.chg hc1 Dj.nil
    replace hB := hB.inS hc1 inNil
    replace hZ := Nat.le_trans hZ hc1.size
    have hS := Chg.refl [] w2
    have Z1 := F2
    have Z2 := F3
    refine wH_take [0, 1] [1, 0] [(18, .int .i64 (x1)), (17, .slice A0 (l0).length cap0)] (by kernel_rfl) (qT (qT (qB (qT (qL (qB (qT (qT qZ)))))))) (by kernel_rfl) ?_
    obtain ⟨x2, hx2, hm⟩ := bindE hm
    refine wH_idx (i := 2) (d := 19) (T := 24) (A := A0) (n := (l0).length) (cap := cap0) (kd := .i64) (m := x1) (by kernel_rfl) (qT (qT (qB (qT (qL (qB (qT (qT qZ)))))))) (by kernel_rfl) (by kernel_rfl) sl24 (F2.is hx2) ?_
    refine wH_loadA (i := 3) (d := 20) (T := 49) (ad := (elA A0 2 (x1) 0)) (vs := [.int .i64 (x2.1), .int .i64 (x2.2)]) (by kernel_rfl) (qT (qT (qB (qT (qL (qB (qT (qT qZ)))))))) (by kernel_rfl) (by kernel_rfl) vt49 (fun W hW i u hu => Sl.cells_at (Z1.chg hW Dj.nil) hx2 0 hu (by rfl)) ?_
    refine wH_take [4, 5] [5, 4, 3, 2, 1, 0] [(22, .int .i64 (x1)), (21, .slice A1 (l1).length cap1)] (by kernel_rfl) (qT (qT (qB (qT (qL (qB (qT (qT qZ)))))))) (by kernel_rfl) ?_
    obtain ⟨x3, hx3, hm⟩ := bindE hm
    refine wH_idx (i := 6) (d := 23) (T := 24) (A := A1) (n := (l1).length) (cap := cap1) (kd := .i64) (m := x1) (by kernel_rfl) (qT (qT (qB (qT (qL (qB (qT (qT qZ)))))))) (by kernel_rfl) (by kernel_rfl) sl24 (F3.is hx3) ?_
    refine wH_loadA (i := 7) (d := 24) (T := 49) (ad := (elA A1 2 (x1) 0)) (vs := [.int .i64 (x3.1), .int .i64 (x3.2)]) (by kernel_rfl) (qT (qT (qB (qT (qL (qB (qT (qT qZ)))))))) (by kernel_rfl) (by kernel_rfl) vt49 (fun W hW i u hu => Sl.cells_at (Z2.chg hW Dj.nil) hx3 0 hu (by rfl)) ?_
    refine wH_done (by kernel_rfl) ?_
    refine eX_tail ?_
    obtain ⟨y1, hy1, hm⟩ := bindE hm
    refine wS_calls (d := 25) (f := 36) (vs := [.agg #[.int .i64 (x2.1), .int .i64 (x2.2)], .agg #[.int .i64 (x3.1), .int .i64 (x3.2)]]) (by kernel_rfl) ent36 (c_laws_eqPoint hy1) ?_
    rintro _ w3 ⟨rfl, hc2⟩
    replace F2 := F2.chg hc2 Dj.nil
    replace F3 := F3.chg hc2 Dj.nil
    replace hB := hB.inS hc2 inNil
    replace hZ := Nat.le_trans hZ hc2.size
    refine ⟨.bool (y1), rfl, ?_⟩
    refine wS_pure 1 [(26, .bool (!y1))] (by kernel_rfl) ?_
    refine wS_end (by rfl) ?_
    refine eX_then ?_
    refine cW_cond (t := !y1) (by kernel_rfl) (fun hb3 => ?_) (fun hb3 => ?_)
    ·have hm := condT hb3 hm
     refine cW_seq ?_
     refine cW_region ?_
     refine wS_pure 1 [(4, .bool (false))] (by kernel_rfl) ?_
     refine wS_end (by rfl) ?_
     refine eX_then ?_
     refine cW_ret ?_
     refine eX_block_ret ?_
     refine eX_then_ret ?_
     have hq : (some (Ctl.out (Sum.inr false)) : Option (Ctl (Int) (Sum (Unit) ((Bool))))) = some _ := hm
     replace hq := someE hq
     subst hq
     refine eX_outR hx1 (fun hr => ?_)
     subst hr
     refine eX_block_ret ?_
     refine eX_then_ret ?_
     refine eX_then_ret ?_
     have hq : (some false : Option ((Bool))) = some _ := hm1
     replace hq := someE hq
     subst hq
     refine eX_ret (vs := [.bool (false)]) [.tmp 4] (by rfl) ⟨by (show lkE _ _ _ = _); kernel_rfl, trivial⟩ ?_
     exact ⟨rfl, hB⟩
    ·have hm := condF hb3 hm
     refine cW_skip ?_
     refine eX_block ?_
     refine eX_then ?_
     refine cW_region ?_
     refine wS_pure 3 [(5, .int .i64 (wr (x1 + 1))), (16, .int .i64 (wr (x1 + 1))), (15, .int .i64 (x1))] (by kernel_rfl) ?_
     refine wS_end (by rfl) ?_
     have hq : (some (Ctl.next (wr (x1 + 1))) : Option (Ctl (Int) (Sum (Unit) ((Bool))))) = some _ := hm
     replace hq := someE hq
     subst hq
     exact eX_next hx1 (fun hst => ⟨wr (x1 + 1), rfl, Fr.of hst (by kernel_rfl), F2, F3, hB, hZ⟩)
   ·have hm := condF hb2 hm
    refine cW_exit ?_
    refine eX_then_exit ?_
    have hq : (some (Ctl.out (Sum.inl (()))) : Option (Ctl (Int) (Sum (Unit) ((Bool))))) = some _ := hm
    replace hq := someE hq
    subst hq
    refine eX_outX hx1 (fun hr2 => ?_)
    replace hr2 := hr2.symm
    subst hr2
    refine eX_block_hit ?_
    exact eX_J (fun hst => ⟨rfl, Fr.of hst (by kernel_rfl), hB, hZ⟩)
  ·rintro a' w4 ⟨hJ, hF2, hB, hZ⟩
   subst hJ
   refine Fr.goX hF2 (by kernel_rfl) ?_
   refine eX_then ?_
   refine cW_seq ?_
   refine cW_region ?_
   refine wS_pure 1 [(4, .bool (true))] (by kernel_rfl) ?_
   refine wS_end (by rfl) ?_
   refine eX_then ?_
   refine cW_ret ?_
   have hq : (some true : Option ((Bool))) = some _ := hm
   replace hq := someE hq
   subst hq
   refine eX_ret (vs := [.bool (true)]) [.tmp 4] (by rfl) ⟨by (show lkE _ _ _ = _); kernel_rfl, trivial⟩ ?_
   exact ⟨rfl, hB⟩

set_option maxRecDepth 100000 in
/-- laws.markPointS -/
theorem c_laws_markPointS {w0 : World} {l0 : List (Int × Int)} {A0 : Option Addr} {cap0 : Nat} {fp0 : List Nat} {p1 : Int} {r : (Int) × (List (Int × Int))} (hm : m_laws_markPointS l0 p1 = some r) (F0 : Ow 2 encII 49 w0 fp0 A0 cap0 l0) :
  Calls Try.prog 18 #[.slice A0 (l0).length cap0, .int .i64 (p1)] w0 fun e w' => e = .returned (.int .i64 (r.1)) ∧ Ow 2 encII 49 w' fp0 A0 cap0 r.2 ∧ (r.2).length = (l0).length ∧ Chg (fp0 ++ []) w0 w' := by
 have L0 := F0.low
 have hB : Chg (fp0 ++ []) w0 w0 := Chg.refl _ _
 have hZ := Nat.le_refl w0.heap.size
 unfold m_laws_markPointS at hm
 refine enterE (N := 27) Try.func18 (by rfl) Try.ntmps18 (by simp) [(0, .slice A0 (l0).length cap0), (1, .int .i64 (p1))] (by rfl) (by kernel_rfl) (fun a => ?_)
 refine cW_seq ?_
 refine cW_region ?_
 refine wS_pure 1 [(4, .int .i64 (0))] (by kernel_rfl) ?_
 refine wS_end (by rfl) ?_
 refine eX_then ?_
 refine cW_seq ?_
 refine cW_seq ?_
 refine cW_region ?_
 refine wS_pure 1 [(5, .int .i64 (0))] (by kernel_rfl) ?_
 refine wS_end (by rfl) ?_
 refine eX_then ?_
 obtain ⟨r1, hr1, hm⟩ := bindE hm
 have hm1 := hm
 refine cW_cut (fun a' w' => ∃ x1 : Int, ∃ l1 : List (Int × Int), (x1, l1) = r1 ∧ Fr 27 [(1, .int .i64 (x1))] a' ∧ Ow 2 encII 49 w' fp0 A0 cap0 l1 ∧ (l1).length = (l0).length ∧ Chg (fp0 ++ []) w0 w' ∧ w0.heap.size ≤ w'.heap.size) ?_ ?_
 ·refine cW_block ?_
  refine cW_loop _ (fun (s1 : Int × Int × (List (Int × Int))) a' w' => ∃ x2 : Int, ∃ x3 : Int, ∃ l2 : List (Int × Int), (x2, x3, l2) = s1 ∧ Fr 27 [(0, .slice A0 (l2).length cap0), (1, .int .i64 (x2)), (5, .int .i64 (x3))] a' ∧ Ow 2 encII 49 w' fp0 A0 cap0 l2 ∧ (l2).length = (l0).length ∧ Chg (fp0 ++ []) w0 w' ∧ w0.heap.size ≤ w'.heap.size) hr1 (fun hst => ⟨p1, 0, l0, rfl, Fr.of hst (by kernel_rfl), F0, (Eq.refl (l0).length), hB, hZ⟩) ?_
  rintro _ c1 a' w1 ⟨x2, x3, l2, rfl, hF1, F1, hl1, hB, hZ⟩ hx1
  refine Fr.goOn hF1 (by kernel_rfl) ?_
  have hm := hx1
  unfold m_laws_markPointS_s1 at hm
  refine cW_seq ?_
  refine cW_seq ?_
  refine cW_region ?_
  refine wS_pure 4 [(9, .bool (decide (x3 < (((l2).length : Int))))), (8, .int .i64 (((l2).length : Int))), (7, .slice A0 (l2).length cap0), (6, .int .i64 (x3))] (by kernel_rfl) ?_
  refine wS_end (by rfl) ?_
  refine eX_then ?_
  refine cW_cond (t := decide (x3 < (((l2).length : Int)))) (by kernel_rfl) (fun hb1 => ?_) (fun hb1 => ?_)
  ·have hm := condT hb1 hm
   refine cW_skip ?_
   refine eX_then ?_
   refine cW_seq ?_
   refine cW_block ?_
   refine cW_seq ?_
   refine cW_region ?_
   refine wS_pure 3 [(14, .int .i64 (x2)), (13, .int .i64 (x3)), (12, .slice A0 (l2).length cap0)] (by kernel_rfl) ?_
   obtain ⟨x4, hx2, hm⟩ := bindE hm
   refine wS_idx (d := 15) (T := 24) (A := A0) (n := (l2).length) (cap := cap0) (kd := .i64) (m := x3) (by kernel_rfl) sl24 ((F1.sl encII_ok).is hx2) ?_
   refine wS_pure 1 [(16, .pointer (some (elA A0 2 (x3) 0)))] (by kernel_rfl) ?_
   refine wS_storeEl (x := x4) ((x2, x4.2)) (T := 2) (U := 49) (cap := cap0) (j := 0) (A := A0) (v := .int .i64 (x2)) (vs := [.int .i64 (x2)]) (m := x3) (by kernel_rfl) (by rfl) sz2 (by rfl) encII_ok F1 hx2 (by simp only [List.length_cons, List.length_nil]; omega) (by rfl) ?_
   intro w2 F2 hc1
   replace hB := hB.inS hc1 (inMem (fun x hx => (List.mem_append_left _ hx)))
   replace hZ := Nat.le_trans hZ hc1.size
   clear F1
   have hl2 := (show (l2.set (Int.toNat x3) ((x2, x4.2))).length = (l2).length from List.length_set ..).trans hl1
   rewrite [show (l2).length = (l2.set (Int.toNat x3) ((x2, x4.2))).length from (List.length_set ..).symm]
   refine wS_end (by rfl) ?_
   refine eX_then ?_
   refine cW_seq ?_
   refine cW_region ?_
   refine wS_pure 3 [(1, .int .i64 (wr (x2 + 1))), (18, .int .i64 (wr (x2 + 1))), (17, .int .i64 (x2))] (by kernel_rfl) ?_
   refine wS_end (by rfl) ?_
   refine eX_then ?_
   refine cW_seq ?_
   refine cW_region ?_
   refine wS_pure 3 [(21, .int .i64 (wr (x2 + 1))), (20, .int .i64 (x3)), (19, .slice A0 (l2.set (Int.toNat x3) ((x2, x4.2))).length cap0)] (by kernel_rfl) ?_
   obtain ⟨x5, hx3, hm⟩ := bindE hm
   refine wS_idx (d := 22) (T := 24) (A := A0) (n := (l2.set (Int.toNat x3) ((x2, x4.2))).length) (cap := cap0) (kd := .i64) (m := x3) (by kernel_rfl) sl24 ((F2.sl encII_ok).is hx3) ?_
   refine wS_pure 1 [(23, .pointer (some (elA A0 2 (x3) 1)))] (by kernel_rfl) ?_
   refine wS_storeEl (x := x5) ((x5.1, wr (x2 + 1))) (T := 2) (U := 49) (cap := cap0) (j := 1) (A := A0) (v := .int .i64 (wr (x2 + 1))) (vs := [.int .i64 (wr (x2 + 1))]) (m := x3) (by kernel_rfl) (by rfl) sz2 (by rfl) encII_ok F2 hx3 (by simp only [List.length_cons, List.length_nil]; omega) (by rfl) ?_
   intro w3 F3 hc2
   replace hB := hB.inS hc2 (inMem (fun x hx => (List.mem_append_left _ hx)))
   replace hZ := Nat.le_trans hZ hc2.size
   clear F2
   have hl3 := (show ((l2.set (Int.toNat x3) ((x2, x4.2))).set (Int.toNat x3) ((x5.1, wr (x2 + 1)))).length = (l2.set (Int.toNat x3) ((x2, x4.2))).length from List.length_set ..).trans hl2
   rewrite [show (l2.set (Int.toNat x3) ((x2, x4.2))).length = ((l2.set (Int.toNat x3) ((x2, x4.2))).set (Int.toNat x3) ((x5.1, wr (x2 + 1)))).length from (List.length_set ..).symm]
   refine wS_end (by rfl) ?_
   refine eX_then ?_
   refine cW_region ?_
   refine wS_pure 3 [(1, .int .i64 (wr ((wr (x2 + 1)) + 1))), (25, .int .i64 (wr ((wr (x2 + 1)) + 1))), (24, .int .i64 (wr (x2 + 1)))] (by kernel_rfl) ?_
   refine wS_end (by rfl) ?_
   refine eX_block ?_
   refine eX_then ?_
   refine cW_region ?_
   refine wS_pure 3 [(5, .int .i64 (wr (x3 + 1))), (11, .int .i64 (wr (x3 + 1))), (10, .int .i64 (x3))] (by kernel_rfl) ?_
   refine wS_end (by rfl) ?_
   have hq : (some (Ctl.next ((wr ((wr (x2 + 1)) + 1), wr (x3 + 1), (l2.set (Int.toNat x3) ((x2, x4.2))).set (Int.toNat x3) ((x5.1, wr (x2 + 1)))))) : Option (Ctl (Int × Int × (List (Int × Int))) (Int × (List (Int × Int))))) = some _ := hm
   replace hq := someE hq
   subst hq
   exact eX_next hx1 (fun hst => ⟨wr ((wr (x2 + 1)) + 1), wr (x3 + 1), (l2.set (Int.toNat x3) ((x2, x4.2))).set (Int.toNat x3) ((x5.1, wr (x2 + 1))), rfl, Fr.of hst (by kernel_rfl), F3, hl3, hB, hZ⟩)
  ·have hm := condF hb1 hm
   refine cW_exit ?_
   refine eX_then_exit ?_
   have hq : (some (Ctl.out ((x2, l2))) : Option (Ctl (Int × Int × (List (Int × Int))) (Int × (List (Int × Int))))) = some _ := hm
   replace hq := someE hq
   subst hq
   refine eX_outX hx1 (fun hr2 => ?_)
   replace hr2 := hr2.symm
   subst hr2
   refine eX_block_hit ?_
   exact eX_J (fun hst => ⟨x2, l2, rfl, Fr.of hst (by kernel_rfl), F1, hl1, hB, hZ⟩)
 ·rintro a' w4 ⟨x1, l1, hJ, hF2, F4, hl4, hB, hZ⟩
  subst hJ
  refine Fr.goX hF2 (by kernel_rfl) ?_
  refine eX_then ?_
  refine cW_seq ?_
  refine cW_region ?_
  refine wS_pure 2 [(4, .int .i64 (x1)), (26, .int .i64 (x1))] (by kernel_rfl) ?_
  refine wS_end (by rfl) ?_
  refine eX_then ?_
  refine cW_ret ?_
  have hq : (some ((x1, l1)) : Option ((Int) × (List (Int × Int)))) = some _ := hm
  replace hq := someE hq
  subst hq
  refine eX_ret (vs := [.int .i64 (x1)]) [.tmp 4] (by rfl) ⟨by (show lkE _ _ _ = _); kernel_rfl, trivial⟩ ?_
  exact ⟨rfl, F4, (by first | exact hl4 | rfl), hB⟩

set_option maxRecDepth 100000 in
/-- laws.markInt64S -/
theorem c_laws_markInt64S {w0 : World} {l0 : List (Int)} {A0 : Option Addr} {cap0 : Nat} {fp0 : List Nat} {p1 : Int} {r : (Int) × (List (Int))} (hm : m_laws_markInt64S l0 p1 = some r) (F0 : Ow 1 encI 2 w0 fp0 A0 cap0 l0) :
  Calls Try.prog 37 #[.slice A0 (l0).length cap0, .int .i64 (p1)] w0 fun e w' => e = .returned (.int .i64 (r.1)) ∧ Ow 1 encI 2 w' fp0 A0 cap0 r.2 ∧ (r.2).length = (l0).length ∧ Chg (fp0 ++ []) w0 w' := by
 have L0 := F0.low
 have hB : Chg (fp0 ++ []) w0 w0 := Chg.refl _ _
 have hZ := Nat.le_refl w0.heap.size
 unfold m_laws_markInt64S at hm
 refine enterE (N := 19) Try.func37 (by rfl) Try.ntmps37 (by simp) [(0, .slice A0 (l0).length cap0), (1, .int .i64 (p1))] (by rfl) (by kernel_rfl) (fun a => ?_)
 refine cW_seq ?_
 refine cW_region ?_
 refine wS_pure 1 [(4, .int .i64 (0))] (by kernel_rfl) ?_
 refine wS_end (by rfl) ?_
 refine eX_then ?_
 refine cW_seq ?_
 refine cW_seq ?_
 refine cW_region ?_
 refine wS_pure 1 [(5, .int .i64 (0))] (by kernel_rfl) ?_
 refine wS_end (by rfl) ?_
 refine eX_then ?_
 obtain ⟨r1, hr1, hm⟩ := bindE hm
 have hm1 := hm
 refine cW_cut (fun a' w' => ∃ x1 : Int, ∃ l1 : List (Int), (x1, l1) = r1 ∧ Fr 19 [(1, .int .i64 (x1))] a' ∧ Ow 1 encI 2 w' fp0 A0 cap0 l1 ∧ (l1).length = (l0).length ∧ Chg (fp0 ++ []) w0 w' ∧ w0.heap.size ≤ w'.heap.size) ?_ ?_
 ·refine cW_block ?_
  refine cW_loop _ (fun (s1 : Int × Int × (List (Int))) a' w' => ∃ x2 : Int, ∃ x3 : Int, ∃ l2 : List (Int), (x2, x3, l2) = s1 ∧ Fr 19 [(0, .slice A0 (l2).length cap0), (1, .int .i64 (x2)), (5, .int .i64 (x3))] a' ∧ Ow 1 encI 2 w' fp0 A0 cap0 l2 ∧ (l2).length = (l0).length ∧ Chg (fp0 ++ []) w0 w' ∧ w0.heap.size ≤ w'.heap.size) hr1 (fun hst => ⟨p1, 0, l0, rfl, Fr.of hst (by kernel_rfl), F0, (Eq.refl (l0).length), hB, hZ⟩) ?_
  rintro _ c1 a' w1 ⟨x2, x3, l2, rfl, hF1, F1, hl1, hB, hZ⟩ hx1
  refine Fr.goOn hF1 (by kernel_rfl) ?_
  have hm := hx1
  unfold m_laws_markInt64S_s1 at hm
  refine cW_seq ?_
  refine cW_seq ?_
  refine cW_region ?_
  refine wS_pure 4 [(9, .bool (decide (x3 < (((l2).length : Int))))), (8, .int .i64 (((l2).length : Int))), (7, .slice A0 (l2).length cap0), (6, .int .i64 (x3))] (by kernel_rfl) ?_
  refine wS_end (by rfl) ?_
  refine eX_then ?_
  refine cW_cond (t := decide (x3 < (((l2).length : Int)))) (by kernel_rfl) (fun hb1 => ?_) (fun hb1 => ?_)
  ·have hm := condT hb1 hm
   refine cW_skip ?_
   refine eX_then ?_
   refine cW_seq ?_
   refine cW_block ?_
   refine cW_seq ?_
   refine cW_region ?_
   refine wS_pure 3 [(14, .int .i64 (x2)), (13, .int .i64 (x3)), (12, .slice A0 (l2).length cap0)] (by kernel_rfl) ?_
   obtain ⟨x4, hx2, hm⟩ := bindE hm
   refine wS_idx (d := 15) (T := 32) (A := A0) (n := (l2).length) (cap := cap0) (kd := .i64) (m := x3) (by kernel_rfl) sl32 ((F1.sl encI_ok).is hx2) ?_
   refine wS_storeEl (x := x4) x2 (T := 2) (U := 2) (cap := cap0) (j := 0) (A := A0) (v := .int .i64 (x2)) (vs := [.int .i64 (x2)]) (m := x3) (by kernel_rfl) (by rfl) sz2 (by rfl) encI_ok F1 hx2 (by simp only [List.length_cons, List.length_nil]; omega) (by rfl) ?_
   intro w2 F2 hc1
   replace hB := hB.inS hc1 (inMem (fun x hx => (List.mem_append_left _ hx)))
   replace hZ := Nat.le_trans hZ hc1.size
   clear F1
   have hl2 := (show (l2.set (Int.toNat x3) x2).length = (l2).length from List.length_set ..).trans hl1
   rewrite [show (l2).length = (l2.set (Int.toNat x3) x2).length from (List.length_set ..).symm]
   refine wS_end (by rfl) ?_
   refine eX_then ?_
   refine cW_region ?_
   refine wS_pure 3 [(1, .int .i64 (wr (x2 + 1))), (17, .int .i64 (wr (x2 + 1))), (16, .int .i64 (x2))] (by kernel_rfl) ?_
   refine wS_end (by rfl) ?_
   refine eX_block ?_
   refine eX_then ?_
   refine cW_region ?_
   refine wS_pure 3 [(5, .int .i64 (wr (x3 + 1))), (11, .int .i64 (wr (x3 + 1))), (10, .int .i64 (x3))] (by kernel_rfl) ?_
   refine wS_end (by rfl) ?_
   have hq : (some (Ctl.next ((wr (x2 + 1), wr (x3 + 1), l2.set (Int.toNat x3) x2))) : Option (Ctl (Int × Int × (List (Int))) (Int × (List (Int))))) = some _ := hm
   replace hq := someE hq
   subst hq
   exact eX_next hx1 (fun hst => ⟨wr (x2 + 1), wr (x3 + 1), l2.set (Int.toNat x3) x2, rfl, Fr.of hst (by kernel_rfl), F2, hl2, hB, hZ⟩)
  ·have hm := condF hb1 hm
   refine cW_exit ?_
   refine eX_then_exit ?_
   have hq : (some (Ctl.out ((x2, l2))) : Option (Ctl (Int × Int × (List (Int))) (Int × (List (Int))))) = some _ := hm
   replace hq := someE hq
   subst hq
   refine eX_outX hx1 (fun hr2 => ?_)
   replace hr2 := hr2.symm
   subst hr2
   refine eX_block_hit ?_
   exact eX_J (fun hst => ⟨x2, l2, rfl, Fr.of hst (by kernel_rfl), F1, hl1, hB, hZ⟩)
 ·rintro a' w3 ⟨x1, l1, hJ, hF2, F3, hl3, hB, hZ⟩
  subst hJ
  refine Fr.goX hF2 (by kernel_rfl) ?_
  refine eX_then ?_
  refine cW_seq ?_
  refine cW_region ?_
  refine wS_pure 2 [(4, .int .i64 (x1)), (18, .int .i64 (x1))] (by kernel_rfl) ?_
  refine wS_end (by rfl) ?_
  refine eX_then ?_
  refine cW_ret ?_
  have hq : (some ((x1, l1)) : Option ((Int) × (List (Int)))) = some _ := hm
  replace hq := someE hq
  subst hq
  refine eX_ret (vs := [.int .i64 (x1)]) [.tmp 4] (by rfl) ⟨by (show lkE _ _ _ = _); kernel_rfl, trivial⟩ ?_
  exact ⟨rfl, F3, (by first | exact hl3 | rfl), hB⟩

set_option maxRecDepth 100000 in
/-- laws.markInt64SS -/
theorem c_laws_markInt64SS {w0 : World} {l0 : List (List (Int))} {A0 : Option Addr} {cap0 : Nat} {fp0 fr0 : List Nat} {p1 : Int} {r : (Int) × (List (List (Int)))} (hm : m_laws_markInt64SS l0 p1 = some r) (F0 : OwR 1 encI 32 2 w0 fp0 fr0 A0 cap0 l0) :
  Calls Try.prog 19 #[.slice A0 (l0).length cap0, .int .i64 (p1)] w0 fun e w' => e = .returned (.int .i64 (r.1)) ∧ OwR 1 encI 32 2 w' fp0 fr0 A0 cap0 r.2 ∧ (r.2).length = (l0).length ∧ Chg ((fp0 ++ fr0) ++ []) w0 w' := by
 have L0 := F0.low
 have hB : Chg ((fp0 ++ fr0) ++ []) w0 w0 := Chg.refl _ _
 have hZ := Nat.le_refl w0.heap.size
 unfold m_laws_markInt64SS at hm
 refine enterE (N := 19) Try.func19 (by rfl) Try.ntmps19 (by simp) [(0, .slice A0 (l0).length cap0), (1, .int .i64 (p1))] (by rfl) (by kernel_rfl) (fun a => ?_)
 refine cW_seq ?_
 refine cW_region ?_
 refine wS_pure 1 [(4, .int .i64 (0))] (by kernel_rfl) ?_
 refine wS_end (by rfl) ?_
 refine eX_then ?_
 refine cW_seq ?_
 refine cW_seq ?_
 refine cW_region ?_
 refine wS_pure 1 [(5, .int .i64 (0))] (by kernel_rfl) ?_
 refine wS_end (by rfl) ?_
 refine eX_then ?_
 obtain ⟨r1, hr1, hm⟩ := bindE hm
 have hm1 := hm
 refine cW_cut (fun a' w' => ∃ x1 : Int, ∃ l1 : List (List (Int)), (x1, l1) = r1 ∧ Fr 19 [(1, .int .i64 (x1))] a' ∧ OwR 1 encI 32 2 w' fp0 fr0 A0 cap0 l1 ∧ (l1).length = (l0).length ∧ Chg ((fp0 ++ fr0) ++ []) w0 w' ∧ w0.heap.size ≤ w'.heap.size) ?_ ?_
 ·refine cW_block ?_
  refine cW_loop _ (fun (s1 : Int × Int × (List (List (Int)))) a' w' => ∃ x2 : Int, ∃ x3 : Int, ∃ l2 : List (List (Int)), (x2, x3, l2) = s1 ∧ Fr 19 [(0, .slice A0 (l2).length cap0), (1, .int .i64 (x2)), (5, .int .i64 (x3))] a' ∧ OwR 1 encI 32 2 w' fp0 fr0 A0 cap0 l2 ∧ (l2).length = (l0).length ∧ Chg ((fp0 ++ fr0) ++ []) w0 w' ∧ w0.heap.size ≤ w'.heap.size) hr1 (fun hst => ⟨p1, 0, l0, rfl, Fr.of hst (by kernel_rfl), F0, (Eq.refl (l0).length), hB, hZ⟩) ?_
  rintro _ c1 a' w1 ⟨x2, x3, l2, rfl, hF1, F1, hl1, hB, hZ⟩ hx1
  refine Fr.goOn hF1 (by kernel_rfl) ?_
  have hm := hx1
  unfold m_laws_markInt64SS_s1 at hm
  refine cW_seq ?_
  refine cW_seq ?_
  refine cW_region ?_
  refine wS_pure 4 [(9, .bool (decide (x3 < (((l2).length : Int))))), (8, .int .i64 (((l2).length : Int))), (7, .slice A0 (l2).length cap0), (6, .int .i64 (x3))] (by kernel_rfl) ?_
  refine wS_end (by rfl) ?_
  refine eX_then ?_
  refine cW_cond (t := decide (x3 < (((l2).length : Int)))) (by kernel_rfl) (fun hb1 => ?_) (fun hb1 => ?_)
  ·have hm := condT hb1 hm
   refine cW_skip ?_
   refine eX_then ?_
   refine cW_seq ?_
   refine cW_block ?_
   refine cW_region ?_
   refine wS_pure 2 [(13, .int .i64 (x3)), (12, .slice A0 (l2).length cap0)] (by kernel_rfl) ?_
   obtain ⟨x4, hx2, hm⟩ := bindE hm
   refine wS_idx (d := 14) (T := 26) (A := A0) (n := (l2).length) (cap := cap0) (kd := .i64) (m := x3) (by kernel_rfl) sl26 ((F1.slr encI_ok).is hx2) ?_
   obtain ⟨A1, cap1, fp1, hc1, hsub1, F2, hcl1⟩ := OwR.lend F1 hx2
   have Dm1 := (F1.dj).symm
   refine wS_load1 (d := 15) (T := 32) (ad := (elA A0 1 (x3) 0)) (v := .slice A1 (x4).length cap1) (by kernel_rfl) vt32 hc1 ?_
   refine wS_pure 1 [(16, .int .i64 (x2))] (by kernel_rfl) ?_
   obtain ⟨y1, hy1, hm⟩ := bindE hm
   refine wS_calls (d := 17) (f := 37) (vs := [.slice A1 (x4).length cap1, .int .i64 (x2)]) (by kernel_rfl) ent37 (c_laws_markInt64S hy1 F2) ?_
   rintro _ w2 ⟨rfl, F3, hl2, hc2⟩
   have F4 := hcl1 _ _ (hc2.more (fun x hx => by simpa using hx)) F3 hl2
   have hc3 := hc2.more (S' := (fp0 ++ fr0) ++ []) (fun x hx => List.mem_append_left _ (hsub1 x (by simpa using hx)))
   have hl3 := (show (l2.set (Int.toNat x3) y1.2).length = (l2).length from List.length_set ..).trans hl1
   clear F1
   replace hB := hB.inS hc3 (inApp (inMem (fun x hx => (List.mem_append_left _ hx))) inNil)
   replace hZ := Nat.le_trans hZ hc3.size
   refine ⟨.int .i64 (y1.1), rfl, ?_⟩
   rewrite [(show (l2).length = (l2.set (Int.toNat x3) y1.2).length from (List.length_set ..).symm)]
   refine wS_pure 1 [(1, .int .i64 (y1.1))] (by kernel_rfl) ?_
   refine wS_end (by rfl) ?_
   refine eX_block ?_
   refine eX_then ?_
   refine cW_region ?_
   refine wS_pure 3 [(5, .int .i64 (wr (x3 + 1))), (11, .int .i64 (wr (x3 + 1))), (10, .int .i64 (x3))] (by kernel_rfl) ?_
   refine wS_end (by rfl) ?_
   have hq : (some (Ctl.next ((y1.1, wr (x3 + 1), l2.set (Int.toNat x3) y1.2))) : Option (Ctl (Int × Int × (List (List (Int)))) (Int × (List (List (Int)))))) = some _ := hm
   replace hq := someE hq
   subst hq
   exact eX_next hx1 (fun hst => ⟨y1.1, wr (x3 + 1), l2.set (Int.toNat x3) y1.2, rfl, Fr.of hst (by kernel_rfl), F4, hl3, hB, hZ⟩)
  ·have hm := condF hb1 hm
   refine cW_exit ?_
   refine eX_then_exit ?_
   have hq : (some (Ctl.out ((x2, l2))) : Option (Ctl (Int × Int × (List (List (Int)))) (Int × (List (List (Int)))))) = some _ := hm
   replace hq := someE hq
   subst hq
   refine eX_outX hx1 (fun hr2 => ?_)
   replace hr2 := hr2.symm
   subst hr2
   refine eX_block_hit ?_
   exact eX_J (fun hst => ⟨x2, l2, rfl, Fr.of hst (by kernel_rfl), F1, hl1, hB, hZ⟩)
 ·rintro a' w3 ⟨x1, l1, hJ, hF2, F5, hl4, hB, hZ⟩
  subst hJ
  refine Fr.goX hF2 (by kernel_rfl) ?_
  refine eX_then ?_
  refine cW_seq ?_
  refine cW_region ?_
  refine wS_pure 2 [(4, .int .i64 (x1)), (18, .int .i64 (x1))] (by kernel_rfl) ?_
  refine wS_end (by rfl) ?_
  refine eX_then ?_
  refine cW_ret ?_
  have hq : (some ((x1, l1)) : Option ((Int) × (List (List (Int))))) = some _ := hm
  replace hq := someE hq
  subst hq
  refine eX_ret (vs := [.int .i64 (x1)]) [.tmp 4] (by rfl) ⟨by (show lkE _ _ _ = _); kernel_rfl, trivial⟩ ?_
  exact ⟨rfl, F5, (by first | exact hl4 | rfl), hB⟩

set_option maxRecDepth 100000 in
/-- laws.heldInt64S -/
theorem c_laws_heldInt64S {w0 : World} {l0 : List (Int)} {A0 : Option Addr} {cap0 : Nat} {fp0 : List Nat} {p1 : Int} {r : (Int)} (hm : m_laws_heldInt64S l0 p1 = some r) (F0 : Sl 1 encI w0 fp0 A0 l0) :
  Calls Try.prog 38 #[.slice A0 (l0).length cap0, .int .i64 (p1)] w0 fun e w' => e = .returned (.int .i64 (r)) ∧ Chg [] w0 w' := by
 have L0 := F0.low
 have hB : Chg [] w0 w0 := Chg.refl _ _
 have hZ := Nat.le_refl w0.heap.size
 unfold m_laws_heldInt64S at hm
 refine enterE (N := 21) Try.func38 (by rfl) Try.ntmps38 (by simp) [(0, .slice A0 (l0).length cap0), (1, .int .i64 (p1))] (by rfl) (by kernel_rfl) (fun a => ?_)
 refine cW_seq ?_
 refine cW_region ?_
 refine wS_pure 1 [(4, .int .i64 (0))] (by kernel_rfl) ?_
 refine wS_end (by rfl) ?_
 refine eX_then ?_
 refine cW_seq ?_
 refine cW_seq ?_
 refine cW_region ?_
 refine wS_pure 1 [(5, .int .i64 (0))] (by kernel_rfl) ?_
 refine wS_end (by rfl) ?_
 refine eX_then ?_
 obtain ⟨r1, hr1, hm⟩ := bindE hm
 have hm1 := hm
 refine cW_cut (fun a' w' => ∃ x1 : Int, Sum.inl x1 = r1 ∧ Fr 21 [(1, .int .i64 (x1))] a' ∧ Chg [] w0 w' ∧ w0.heap.size ≤ w'.heap.size) ?_ ?_
 ·refine cW_block ?_
  refine cW_loop _ (fun (s1 : Int × Int) a' w' => ∃ x2 : Int, ∃ x3 : Int, (x2, x3) = s1 ∧ Fr 21 [(0, .slice A0 (l0).length cap0), (1, .int .i64 (x2)), (5, .int .i64 (x3))] a' ∧ Sl 1 encI w' fp0 A0 l0 ∧ Chg [] w0 w' ∧ w0.heap.size ≤ w'.heap.size) hr1 (fun hst => ⟨p1, 0, rfl, Fr.of hst (by kernel_rfl), F0, hB, hZ⟩) ?_
  rintro _ c1 a' w1 ⟨x2, x3, rfl, hF1, F1, hB, hZ⟩ hx1
  refine Fr.goOn hF1 (by kernel_rfl) ?_
  have hm := hx1
  unfold m_laws_heldInt64S_s1 at hm
  refine cW_seq ?_
  refine cW_seq ?_
  refine cW_region ?_
  refine wS_pure 4 [(9, .bool (decide (x3 < (((l0).length : Int))))), (8, .int .i64 (((l0).length : Int))), (7, .slice A0 (l0).length cap0), (6, .int .i64 (x3))] (by kernel_rfl) ?_
  refine wS_end (by rfl) ?_
  refine eX_then ?_
  refine cW_cond (t := decide (x3 < (((l0).length : Int)))) (by kernel_rfl) (fun hb1 => ?_) (fun hb1 => ?_)
  ·have hm := condT hb1 hm
   refine cW_skip ?_
   refine eX_then ?_
   refine cW_seq ?_
   refine cW_block ?_
   refine cW_seq ?_
   refine cW_seq ?_
   refine cW_region ?_
   refine wS_pure 2 [(13, .int .i64 (x3)), (12, .slice A0 (l0).length cap0)] (by kernel_rfl) ?_
   obtain ⟨x4, hx2, hm⟩ := bindE hm
   refine wS_idx (d := 14) (T := 32) (A := A0) (n := (l0).length) (cap := cap0) (kd := .i64) (m := x3) (by kernel_rfl) sl32 (F1.is hx2) ?_
   refine wS_load1 (d := 15) (T := 2) (ad := (elA A0 1 (x3) 0)) (v := .int .i64 (x4)) (by kernel_rfl) vt2 (Sl.cell F1 hx2 0 (by rfl)) ?_
   refine wS_pure 2 [(17, .bool (x4 != x2)), (16, .int .i64 (x2))] (by kernel_rfl) ?_
   refine wS_end (by rfl) ?_
   refine eX_then ?_
   refine cW_cond (t := x4 != x2) (by kernel_rfl) (fun hb2 => ?_) (fun hb2 => ?_)
   ·have hm := condT hb2 hm
    refine cW_seq ?_
    refine cW_region ?_
    refine wS_pure 1 [(4, .int .i64 ((-1)))] (by kernel_rfl) ?_
    refine wS_end (by rfl) ?_
    refine eX_then ?_
    refine cW_ret ?_
    refine eX_then_ret ?_
    refine eX_block_ret ?_
    refine eX_then_ret ?_
    have hq : (some (Ctl.out (Sum.inr ((-1)))) : Option (Ctl (Int × Int) (Sum (Int) ((Int))))) = some _ := hm
    replace hq := someE hq
    subst hq
    refine eX_outR hx1 (fun hr => ?_)
    subst hr
    refine eX_block_ret ?_
    refine eX_then_ret ?_
    refine eX_then_ret ?_
    have hq : (some ((-1)) : Option ((Int))) = some _ := hm1
    replace hq := someE hq
    subst hq
    refine eX_ret (vs := [.int .i64 ((-1))]) [.tmp 4] (by rfl) ⟨by (show lkE _ _ _ = _); kernel_rfl, trivial⟩ ?_
    exact ⟨rfl, hB⟩
   ·have hm := condF hb2 hm
    refine cW_skip ?_
    refine eX_then ?_
    refine cW_region ?_
    refine wS_pure 3 [(1, .int .i64 (wr (x2 + 1))), (19, .int .i64 (wr (x2 + 1))), (18, .int .i64 (x2))] (by kernel_rfl) ?_
    refine wS_end (by rfl) ?_
    refine eX_block ?_
    refine eX_then ?_
    refine cW_region ?_
    refine wS_pure 3 [(5, .int .i64 (wr (x3 + 1))), (11, .int .i64 (wr (x3 + 1))), (10, .int .i64 (x3))] (by kernel_rfl) ?_
    refine wS_end (by rfl) ?_
    have hq : (some (Ctl.next ((wr (x2 + 1), wr (x3 + 1)))) : Option (Ctl (Int × Int) (Sum (Int) ((Int))))) = some _ := hm
    replace hq := someE hq
    subst hq
    exact eX_next hx1 (fun hst => ⟨wr (x2 + 1), wr (x3 + 1), rfl, Fr.of hst (by kernel_rfl), F1, hB, hZ⟩)
  ·have hm := condF hb1 hm
   refine cW_exit ?_
   refine eX_then_exit ?_
   have hq : (some (Ctl.out (Sum.inl x2)) : Option (Ctl (Int × Int) (Sum (Int) ((Int))))) = some _ := hm
   replace hq := someE hq
   subst hq
   refine eX_outX hx1 (fun hr2 => ?_)
   replace hr2 := hr2.symm
   subst hr2
   refine eX_block_hit ?_
   exact eX_J (fun hst => ⟨x2, rfl, Fr.of hst (by kernel_rfl), hB, hZ⟩)
 ·rintro a' w2 ⟨x1, hJ, hF2, hB, hZ⟩
  subst hJ
  refine Fr.goX hF2 (by kernel_rfl) ?_
  refine eX_then ?_
  refine cW_seq ?_
  refine cW_region ?_
  refine wS_pure 2 [(4, .int .i64 (x1)), (20, .int .i64 (x1))] (by kernel_rfl) ?_
  refine wS_end (by rfl) ?_
  refine eX_then ?_
  refine cW_ret ?_
  have hq : (some x1 : Option ((Int))) = some _ := hm
  replace hq := someE hq
  subst hq
  refine eX_ret (vs := [.int .i64 (x1)]) [.tmp 4] (by rfl) ⟨by (show lkE _ _ _ = _); kernel_rfl, trivial⟩ ?_
  exact ⟨rfl, hB⟩

set_option maxRecDepth 100000 in
/-- laws.heldInt64SS -/
theorem c_laws_heldInt64SS {w0 : World} {l0 : List (List (Int))} {A0 : Option Addr} {cap0 : Nat} {fp0 : List Nat} {p1 : Int} {r : (Int)} (hm : m_laws_heldInt64SS l0 p1 = some r) (F0 : SlR 1 encI w0 fp0 A0 l0) :
  Calls Try.prog 20 #[.slice A0 (l0).length cap0, .int .i64 (p1)] w0 fun e w' => e = .returned (.int .i64 (r)) ∧ Chg [] w0 w' := by
 have L0 := F0.low
 have hB : Chg [] w0 w0 := Chg.refl _ _
 have hZ := Nat.le_refl w0.heap.size
 unfold m_laws_heldInt64SS at hm
 refine enterE (N := 21) Try.func20 (by rfl) Try.ntmps20 (by simp) [(0, .slice A0 (l0).length cap0), (1, .int .i64 (p1))] (by rfl) (by kernel_rfl) (fun a => ?_)
 refine cW_seq ?_
 refine cW_region ?_
 refine wS_pure 1 [(4, .int .i64 (0))] (by kernel_rfl) ?_
 refine wS_end (by rfl) ?_
 refine eX_then ?_
 refine cW_seq ?_
 refine cW_seq ?_
 refine cW_region ?_
 refine wS_pure 1 [(5, .int .i64 (0))] (by kernel_rfl) ?_
 refine wS_end (by rfl) ?_
 refine eX_then ?_
 obtain ⟨r1, hr1, hm⟩ := bindE hm
 have hm1 := hm
 refine cW_cut (fun a' w' => ∃ x1 : Int, Sum.inl x1 = r1 ∧ Fr 21 [(1, .int .i64 (x1))] a' ∧ Chg [] w0 w' ∧ w0.heap.size ≤ w'.heap.size) ?_ ?_
 ·refine cW_block ?_
  refine cW_loop _ (fun (s1 : Int × Int) a' w' => ∃ x2 : Int, ∃ x3 : Int, (x2, x3) = s1 ∧ Fr 21 [(0, .slice A0 (l0).length cap0), (1, .int .i64 (x2)), (5, .int .i64 (x3))] a' ∧ SlR 1 encI w' fp0 A0 l0 ∧ Chg [] w0 w' ∧ w0.heap.size ≤ w'.heap.size) hr1 (fun hst => ⟨p1, 0, rfl, Fr.of hst (by kernel_rfl), F0, hB, hZ⟩) ?_
  rintro _ c1 a' w1 ⟨x2, x3, rfl, hF1, F1, hB, hZ⟩ hx1
  refine Fr.goOn hF1 (by kernel_rfl) ?_
  have hm := hx1
  unfold m_laws_heldInt64SS_s1 at hm
  refine cW_seq ?_
  refine cW_seq ?_
  refine cW_region ?_
  refine wS_pure 4 [(9, .bool (decide (x3 < (((l0).length : Int))))), (8, .int .i64 (((l0).length : Int))), (7, .slice A0 (l0).length cap0), (6, .int .i64 (x3))] (by kernel_rfl) ?_
  refine wS_end (by rfl) ?_
  refine eX_then ?_
  refine cW_cond (t := decide (x3 < (((l0).length : Int)))) (by kernel_rfl) (fun hb1 => ?_) (fun hb1 => ?_)
  ·have hm := condT hb1 hm
   refine cW_skip ?_
   refine eX_then ?_
   refine cW_seq ?_
   refine cW_block ?_
   refine cW_seq ?_
   refine cW_region ?_
   refine wS_pure 2 [(13, .int .i64 (x3)), (12, .slice A0 (l0).length cap0)] (by kernel_rfl) ?_
   obtain ⟨x4, hx2, hm⟩ := bindE hm
   refine wS_idx (d := 14) (T := 26) (A := A0) (n := (l0).length) (cap := cap0) (kd := .i64) (m := x3) (by kernel_rfl) sl26 (F1.is hx2) ?_
   obtain ⟨A1, cap1, hc1, F2, K1⟩ := SlR.row F1 hx2
   refine wS_load1 (d := 15) (T := 32) (ad := (elA A0 1 (x3) 0)) (v := .slice A1 (x4).length cap1) (by kernel_rfl) vt32 hc1 ?_
   refine wS_pure 1 [(16, .int .i64 (x2))] (by kernel_rfl) ?_
   obtain ⟨y1, hy1, hm⟩ := bindE hm
   refine wS_calls (d := 17) (f := 38) (vs := [.slice A1 (x4).length cap1, .int .i64 (x2)]) (by kernel_rfl) ent38 (c_laws_heldInt64S hy1 F2) ?_
   rintro _ w2 ⟨rfl, hc2⟩
   replace F1 := F1.chg hc2 Dj.nil
   replace F2 := F2.chg hc2 Dj.nil
   replace hB := hB.inS hc2 inNil
   replace hZ := Nat.le_trans hZ hc2.size
   refine ⟨.int .i64 (y1), rfl, ?_⟩
   refine wS_pure 1 [(1, .int .i64 (y1))] (by kernel_rfl) ?_
   refine wS_end (by rfl) ?_
   refine eX_then ?_
   refine cW_seq ?_
   refine cW_region ?_
   refine wS_pure 2 [(19, .bool (decide (y1 < 0))), (18, .int .i64 (y1))] (by kernel_rfl) ?_
   refine wS_end (by rfl) ?_
   refine eX_then ?_
   refine cW_cond (t := decide (y1 < 0)) (by kernel_rfl) (fun hb2 => ?_) (fun hb2 => ?_)
   ·have hm := condT hb2 hm
    refine cW_seq ?_
    refine cW_region ?_
    refine wS_pure 1 [(4, .int .i64 ((-1)))] (by kernel_rfl) ?_
    refine wS_end (by rfl) ?_
    refine eX_then ?_
    refine cW_ret ?_
    refine eX_block_ret ?_
    refine eX_then_ret ?_
    have hq : (some (Ctl.out (Sum.inr ((-1)))) : Option (Ctl (Int × Int) (Sum (Int) ((Int))))) = some _ := hm
    replace hq := someE hq
    subst hq
    refine eX_outR hx1 (fun hr => ?_)
    subst hr
    refine eX_block_ret ?_
    refine eX_then_ret ?_
    refine eX_then_ret ?_
    have hq : (some ((-1)) : Option ((Int))) = some _ := hm1
    replace hq := someE hq
    subst hq
    refine eX_ret (vs := [.int .i64 ((-1))]) [.tmp 4] (by rfl) ⟨by (show lkE _ _ _ = _); kernel_rfl, trivial⟩ ?_
    exact ⟨rfl, hB⟩
   ·have hm := condF hb2 hm
    refine cW_skip ?_
    refine eX_block ?_
    refine eX_then ?_
    refine cW_region ?_
    refine wS_pure 3 [(5, .int .i64 (wr (x3 + 1))), (11, .int .i64 (wr (x3 + 1))), (10, .int .i64 (x3))] (by kernel_rfl) ?_
    refine wS_end (by rfl) ?_
    have hq : (some (Ctl.next ((y1, wr (x3 + 1)))) : Option (Ctl (Int × Int) (Sum (Int) ((Int))))) = some _ := hm
    replace hq := someE hq
    subst hq
    exact eX_next hx1 (fun hst => ⟨y1, wr (x3 + 1), rfl, Fr.of hst (by kernel_rfl), F1, hB, hZ⟩)
  ·have hm := condF hb1 hm
   refine cW_exit ?_
   refine eX_then_exit ?_
   have hq : (some (Ctl.out (Sum.inl x2)) : Option (Ctl (Int × Int) (Sum (Int) ((Int))))) = some _ := hm
   replace hq := someE hq
   subst hq
   refine eX_outX hx1 (fun hr2 => ?_)
   replace hr2 := hr2.symm
   subst hr2
   refine eX_block_hit ?_
   exact eX_J (fun hst => ⟨x2, rfl, Fr.of hst (by kernel_rfl), hB, hZ⟩)
 ·rintro a' w3 ⟨x1, hJ, hF2, hB, hZ⟩
  subst hJ
  refine Fr.goX hF2 (by kernel_rfl) ?_
  refine eX_then ?_
  refine cW_seq ?_
  refine cW_region ?_
  refine wS_pure 2 [(4, .int .i64 (x1)), (20, .int .i64 (x1))] (by kernel_rfl) ?_
  refine wS_end (by rfl) ?_
  refine eX_then ?_
  refine cW_ret ?_
  have hq : (some x1 : Option ((Int))) = some _ := hm
  replace hq := someE hq
  subst hq
  refine eX_ret (vs := [.int .i64 (x1)]) [.tmp 4] (by rfl) ⟨by (show lkE _ _ _ = _); kernel_rfl, trivial⟩ ?_
  exact ⟨rfl, hB⟩

set_option maxRecDepth 100000 in
/-- laws.FnExactBestJoins -/
theorem c_laws_FnExactBestJoins {w0 : World} {l0 : List (Int × Int)} {A0 : Option Addr} {cap0 : Nat} {fp0 : List Nat} {r : (Bool)} (hm : m_laws_FnExactBestJoins l0 = some r) (F0 : Sl 2 encII w0 fp0 A0 l0) :
  Calls Try.prog 4 #[.slice A0 (l0).length cap0] w0 fun e w' => e = .returned (.bool (r)) ∧ Chg [] w0 w' := by
 have L0 := F0.low
 have hB : Chg [] w0 w0 := Chg.refl _ _
 have hZ := Nat.le_refl w0.heap.size
 unfold m_laws_FnExactBestJoins at hm
 refine enterE (N := 117) Try.func4 (by rfl) Try.ntmps4 (by simp) [(0, .slice A0 (l0).length cap0)] (by rfl) (by kernel_rfl) (fun a => ?_)
 refine cW_seq ?_
 refine cW_region ?_
 refine wS_pure 1 [(2, .bool (false))] (by kernel_rfl) ?_
 refine wS_end (by rfl) ?_
 refine eX_then ?_
 refine cW_seq ?_
 refine cW_region ?_
 refine wS_pure 1 [(3, .int .i64 (1048576))] (by kernel_rfl) ?_
 refine wS_end (by rfl) ?_
 refine eX_then ?_
 refine cW_seq ?_
 refine cW_region ?_
 refine wS_pure 2 [(18, .int .i64 (1048576)), (17, .slice A0 (l0).length cap0)] (by kernel_rfl) ?_
 obtain ⟨y1, hy1, hm⟩ := bindE hm
 refine wS_calls (d := 19) (f := 13) (vs := [.slice A0 (l0).length cap0, .int .i64 (1048576)]) (by kernel_rfl) ent13 (c_laws_szPointS hy1 F0) ?_
 rintro _ w1 ⟨rfl, hc1⟩
 replace F0 := F0.chg hc1 Dj.nil
 replace hB := hB.inS hc1 inNil
 replace hZ := Nat.le_trans hZ hc1.size
 refine ⟨.int .i64 (y1), rfl, ?_⟩
 refine wS_pure 1 [(3, .int .i64 (y1))] (by kernel_rfl) ?_
 refine wS_end (by rfl) ?_
 refine eX_then ?_
 refine cW_seq ?_
 refine cW_seq ?_
 refine cW_region ?_
 refine wS_pure 2 [(21, .bool (decide (y1 < 0))), (20, .int .i64 (y1))] (by kernel_rfl) ?_
 refine wS_end (by rfl) ?_
 refine eX_then ?_
 refine cW_cond (t := decide (y1 < 0)) (by kernel_rfl) (fun hb1 => ?_) (fun hb1 => ?_)
 ·have hm := condT hb1 hm
  refine cW_seq ?_
  refine cW_region ?_
  refine wS_pure 1 [(2, .bool (true))] (by kernel_rfl) ?_
  refine wS_end (by rfl) ?_
  refine eX_then ?_
  refine cW_ret ?_
  refine eX_then_ret ?_
  have hq : (some true : Option ((Bool))) = some _ := hm
  replace hq := someE hq
  subst hq
  refine eX_ret (vs := [.bool (true)]) [.tmp 2] (by rfl) ⟨by (show lkE _ _ _ = _); kernel_rfl, trivial⟩ ?_
  exact ⟨rfl, hB⟩
 ·have hm := condF hb1 hm
  refine cW_skip ?_
  refine eX_then ?_
  refine cW_seq ?_
  refine cW_region ?_
  refine wS_pure 1 [(23, .slice A0 (l0).length cap0)] (by kernel_rfl) ?_
  obtain ⟨y2, hy2, hm⟩ := bindE hm
  refine wS_calls (d := 24) (f := 15) (vs := [.slice A0 (l0).length cap0]) (by kernel_rfl) ent15 (c_laws_toPointS hy2 F0) ?_
  rintro _ w2 ⟨A1, cap1, fp1, rfl, F1, G1, hc2⟩
  replace F0 := F0.chg hc2 Dj.nil
  replace hB := hB.inS hc2 inNil
  replace G1 := low_le hZ G1
  replace hZ := Nat.le_trans hZ hc2.size
  refine ⟨.slice A1 (y2).length cap1, rfl, ?_⟩
  obtain ⟨y3, hy3, hm⟩ := bindE hm
  refine wS_calls (d := 25) (f := 14) (vs := [.slice A1 (y2).length cap1]) (by kernel_rfl) ent14 (c_spec_BestJoins hy3 (F1.sl encII_ok)) ?_
  rintro _ w3 ⟨A2, cap2, fp2, rfl, F2, G2, K1, hc3⟩
  have Rt1 : Rt w0.heap.size (fp0 ++ []) fp2 := Rt.of G2 hZ (Rt.app (Rt.low G1) Rt.nil)
  have G3 := Rt.lowof G2 hZ (lowApp G1 lowNil)
  replace F0 := F0.chg hc3 Dj.nil
  replace F1 := F1.chg hc3 Dj.nil
  replace hB := hB.inS hc3 inNil
  replace hZ := Nat.le_trans hZ hc3.size
  refine ⟨.tuple #[.slice A2 (y3.1).length cap2, .int .i64 (y3.2.1), .bool (y3.2.2)], rfl, ?_⟩
  refine wS_pure 7 [(6, .bool (y3.2.2)), (5, .int .i64 (y3.2.1)), (4, .slice A2 (y3.1).length cap2), (28, .bool (y3.2.2)), (27, .int .i64 (y3.2.1)), (26, .slice A2 (y3.1).length cap2), (22, .tuple #[.slice A2 (y3.1).length cap2, .int .i64 (y3.2.1), .bool (y3.2.2)])] (by kernel_rfl) ?_
  refine wS_end (by rfl) ?_
  refine eX_then ?_
  refine cW_seq ?_
  refine cW_region ?_
  refine wS_pure 1 [(29, .slice A0 (l0).length cap0)] (by kernel_rfl) ?_
  obtain ⟨y4, hy4, hm⟩ := bindE hm
  refine wS_calls (d := 30) (f := 15) (vs := [.slice A0 (l0).length cap0]) (by kernel_rfl) ent15 (c_laws_toPointS hy4 F0) ?_
  rintro _ w4 ⟨A3, cap3, fp3, rfl, F3, G4, hc4⟩
  have D1 : Dj fp1 fp3 := Dj.of F1.low G4
  have D2 : Dj fp2 fp3 := Dj.of F2.low G4
  replace F0 := F0.chg hc4 Dj.nil
  replace F1 := F1.chg hc4 Dj.nil
  replace F2 := F2.chg hc4 Dj.nil
  replace hB := hB.inS hc4 inNil
  replace G4 := low_le hZ G4
  replace hZ := Nat.le_trans hZ hc4.size
  refine ⟨.slice A3 (y4).length cap3, rfl, ?_⟩
  refine wS_pure 1 [(7, .slice A3 (y4).length cap3)] (by kernel_rfl) ?_
  refine wS_end (by rfl) ?_
  refine eX_then ?_
  refine cW_seq ?_
  refine cW_region ?_
  refine wS_pure 1 [(32, .slice A3 (y4).length cap3)] (by kernel_rfl) ?_
  obtain ⟨y5, hy5, hm⟩ := bindE hm
  refine wS_calls (d := 33) (f := 7) (vs := [.slice A3 (y4).length cap3]) (by kernel_rfl) ent7 (c_impl_BestJoins hy5 (F3.sl encII_ok)) ?_
  rintro _ w5 ⟨A4, cap4, fp4, fr1, rfl, F4, G5, hc5⟩
  have D3 : Dj fp1 (fp4 ++ fr1) := Dj.of F1.low G5
  have D4 : Dj fp2 (fp4 ++ fr1) := Dj.of F2.low G5
  have D5 : Dj fp3 (fp4 ++ fr1) := Dj.of F3.low G5
  replace F0 := F0.chg hc5 Dj.nil
  replace F1 := F1.chg hc5 Dj.nil
  replace F2 := F2.chg hc5 Dj.nil
  replace F3 := F3.chg hc5 Dj.nil
  replace hB := hB.inS hc5 inNil
  replace G5 := low_le hZ G5
  replace hZ := Nat.le_trans hZ hc5.size
  refine ⟨.tuple #[.slice A4 (y5.1).length cap4, .int .i64 (y5.2.1), .bool (y5.2.2)], rfl, ?_⟩
  refine wS_pure 7 [(10, .bool (y5.2.2)), (9, .int .i64 (y5.2.1)), (8, .slice A4 (y5.1).length cap4), (36, .bool (y5.2.2)), (35, .int .i64 (y5.2.1)), (34, .slice A4 (y5.1).length cap4), (31, .tuple #[.slice A4 (y5.1).length cap4, .int .i64 (y5.2.1), .bool (y5.2.2)])] (by kernel_rfl) ?_
  refine wS_end (by rfl) ?_
  refine eX_then ?_
  refine cW_prune [(0, .slice A0 (l0).length cap0), (4, .slice A2 (y3.1).length cap2), (5, .int .i64 (y3.2.1)), (6, .bool (y3.2.2)), (7, .slice A3 (y4).length cap3), (8, .slice A4 (y5.1).length cap4), (9, .int .i64 (y5.2.1)), (10, .bool (y5.2.2))] (by kernel_rfl) (by kernel_rfl) (fun a1 => ?_)
  refine cW_seq ?_
  refine cW_seq ?_
  refine cW_region ?_
  refine wS_pure 2 [(38, .slice A2 (y3.1).length cap2), (37, .slice A4 (y5.1).length cap4)] (by kernel_rfl) ?_
  obtain ⟨y6, hy6, hm⟩ := bindE hm
  refine wS_calls (d := 39) (f := 16) (vs := [.slice A4 (y5.1).length cap4, .slice A2 (y3.1).length cap2]) (by kernel_rfl) ent16 (c_laws_eqInt64SS hy6 (F4.slr encI_ok) F2) ?_
  rintro _ w6 ⟨rfl, hc6⟩
  replace F0 := F0.chg hc6 Dj.nil
  replace F1 := F1.chg hc6 Dj.nil
  replace F2 := F2.chg hc6 Dj.nil
  replace F3 := F3.chg hc6 Dj.nil
  replace F4 := F4.chg hc6 Dj.nil
  replace hB := hB.inS hc6 inNil
  replace hZ := Nat.le_trans hZ hc6.size
  refine ⟨.bool (y6), rfl, ?_⟩
  refine wS_pure 2 [(41, .bool (!y6)), (40, .bool (!y6))] (by kernel_rfl) ?_
  refine wS_bool (!y6) (fun hb2 => ?_) (fun hb2 => ?_)
  ·have hm := condT hb2 hm
   rewrite [hb2]
   refine wS_pure 9 [(50, .bool (true)), (49, undef), (48, undef), (47, undef), (46, .bool (true)), (45, .bool (true)), (44, undef), (43, undef), (42, undef)] (by kernel_rfl) ?_
   refine wS_end (by rfl) ?_
   refine eX_then ?_
   refine cW_cond_t (by kernel_rfl) ?_
   refine cW_seq ?_
   refine cW_region ?_
   refine wS_pure 1 [(2, .bool (false))] (by kernel_rfl) ?_
   refine wS_end (by rfl) ?_
   refine eX_then ?_
   refine cW_ret ?_
   refine eX_then_ret ?_
   have hq : (some false : Option ((Bool))) = some _ := hm
   replace hq := someE hq
   subst hq
   refine eX_ret (vs := [.bool (false)]) [.tmp 2] (by rfl) ⟨by (show lkE _ _ _ = _); kernel_rfl, trivial⟩ ?_
   exact ⟨rfl, hB⟩
  ·have hm := condF hb2 hm
   rewrite [hb2]
   refine wS_pure 5 [(46, .bool (y5.2.1 != y3.2.1)), (45, .bool (y5.2.1 != y3.2.1)), (44, .bool (y5.2.1 != y3.2.1)), (43, .int .i64 (y3.2.1)), (42, .int .i64 (y5.2.1))] (by kernel_rfl) ?_
   refine wS_bool (y5.2.1 != y3.2.1) (fun hb3 => ?_) (fun hb3 => ?_)
   ·have hm := condT hb3 hm
    rewrite [hb3]
    refine wS_pure 4 [(50, .bool (true)), (49, undef), (48, undef), (47, undef)] (by kernel_rfl) ?_
    refine wS_end (by rfl) ?_
    refine eX_then ?_
    refine cW_cond_t (by kernel_rfl) ?_
    refine cW_seq ?_
    refine cW_region ?_
    refine wS_pure 1 [(2, .bool (false))] (by kernel_rfl) ?_
    refine wS_end (by rfl) ?_
    refine eX_then ?_
    refine cW_ret ?_
    refine eX_then_ret ?_
    have hq : (some false : Option ((Bool))) = some _ := hm
    replace hq := someE hq
    subst hq
    refine eX_ret (vs := [.bool (false)]) [.tmp 2] (by rfl) ⟨by (show lkE _ _ _ = _); kernel_rfl, trivial⟩ ?_
    exact ⟨rfl, hB⟩
   ·have hm := condF hb3 hm
    rewrite [hb3]
    refine wS_pure 4 [(50, .bool (!(y5.2.2 == y3.2.2))), (49, .bool (!(y5.2.2 == y3.2.2))), (48, .bool (y3.2.2)), (47, .bool (y5.2.2))] (by kernel_rfl) ?_
    refine wS_end (by rfl) ?_
    refine eX_then ?_
    refine cW_cond (t := !(y5.2.2 == y3.2.2)) (by kernel_rfl) (fun hb4 => ?_) (fun hb4 => ?_)
    ·have hm := condT hb4 hm
     refine cW_seq ?_
     refine cW_region ?_
     refine wS_pure 1 [(2, .bool (false))] (by kernel_rfl) ?_
     refine wS_end (by rfl) ?_
     refine eX_then ?_
     refine cW_ret ?_
     refine eX_then_ret ?_
     have hq : (some false : Option ((Bool))) = some _ := hm
     replace hq := someE hq
     subst hq
     refine eX_ret (vs := [.bool (false)]) [.tmp 2] (by rfl) ⟨by (show lkE _ _ _ = _); kernel_rfl, trivial⟩ ?_
     exact ⟨rfl, hB⟩
    ·have hm := condF hb4 hm
     refine cW_skip ?_
     refine eX_then ?_
     refine cW_seq ?_
     refine cW_seq ?_
     refine cW_region ?_
     refine wS_pure 2 [(52, .slice A0 (l0).length cap0), (51, .slice A3 (y4).length cap3)] (by kernel_rfl) ?_
     obtain ⟨y7, hy7, hm⟩ := bindE hm
     refine wS_calls (d := 53) (f := 15) (vs := [.slice A0 (l0).length cap0]) (by kernel_rfl) ent15 (c_laws_toPointS hy7 F0) ?_
     rintro _ w7 ⟨A5, cap5, fp5, rfl, F5, G6, hc7⟩
     have D6 : Dj fp1 fp5 := Dj.of F1.low G6
     have D7 : Dj fp2 fp5 := Dj.of F2.low G6
     have D8 : Dj fp3 fp5 := Dj.of F3.low G6
     have D9 : Dj (fp4 ++ fr1) fp5 := Dj.of F4.low G6
     replace F0 := F0.chg hc7 Dj.nil
     replace F1 := F1.chg hc7 Dj.nil
     replace F2 := F2.chg hc7 Dj.nil
     replace F3 := F3.chg hc7 Dj.nil
     replace F4 := F4.chg hc7 Dj.nil
     replace hB := hB.inS hc7 inNil
     replace G6 := low_le hZ G6
     replace hZ := Nat.le_trans hZ hc7.size
     refine ⟨.slice A5 (y7).length cap5, rfl, ?_⟩
     obtain ⟨y8, hy8, hm⟩ := bindE hm
     refine wS_calls (d := 54) (f := 17) (vs := [.slice A3 (y4).length cap3, .slice A5 (y7).length cap5]) (by kernel_rfl) ent17 (c_laws_eqPointS hy8 (F3.sl encII_ok) (F5.sl encII_ok)) ?_
     rintro _ w8 ⟨rfl, hc8⟩
     replace F0 := F0.chg hc8 Dj.nil
     replace F1 := F1.chg hc8 Dj.nil
     replace F2 := F2.chg hc8 Dj.nil
     replace F3 := F3.chg hc8 Dj.nil
     replace F4 := F4.chg hc8 Dj.nil
     replace F5 := F5.chg hc8 Dj.nil
     replace hB := hB.inS hc8 inNil
     replace hZ := Nat.le_trans hZ hc8.size
     refine ⟨.bool (y8), rfl, ?_⟩
     refine wS_pure 1 [(55, .bool (!y8))] (by kernel_rfl) ?_
     refine wS_end (by rfl) ?_
     refine eX_then ?_
     refine cW_prune [(0, .slice A0 (l0).length cap0), (4, .slice A2 (y3.1).length cap2), (5, .int .i64 (y3.2.1)), (6, .bool (y3.2.2)), (7, .slice A3 (y4).length cap3), (8, .slice A4 (y5.1).length cap4), (9, .int .i64 (y5.2.1)), (10, .bool (y5.2.2)), (55, .bool (!y8))] (by kernel_rfl) (by kernel_rfl) (fun a2 => ?_)
     refine cW_cond (t := !y8) (by kernel_rfl) (fun hb5 => ?_) (fun hb5 => ?_)
     ·have hm := condT hb5 hm
      refine cW_seq ?_
      refine cW_region ?_
      refine wS_pure 1 [(2, .bool (false))] (by kernel_rfl) ?_
      refine wS_end (by rfl) ?_
      refine eX_then ?_
      refine cW_ret ?_
      refine eX_then_ret ?_
      have hq : (some false : Option ((Bool))) = some _ := hm
      replace hq := someE hq
      subst hq
      refine eX_ret (vs := [.bool (false)]) [.tmp 2] (by rfl) ⟨by (show lkE _ _ _ = _); kernel_rfl, trivial⟩ ?_
      exact ⟨rfl, hB⟩
     ·have hm := condF hb5 hm
      refine cW_skip ?_
      refine eX_then ?_
      refine cW_seq ?_
      refine cW_region ?_
      refine wS_pure 1 [(11, .int .i64 (1))] (by kernel_rfl) ?_
      refine wS_end (by rfl) ?_
      refine eX_then ?_
      refine cW_seq ?_
      refine cW_region ?_
      refine wS_pure 2 [(57, .int .i64 (1)), (56, .slice A3 (y4).length cap3)] (by kernel_rfl) ?_
      obtain ⟨y9, hy9, hm⟩ := bindE hm
      refine wS_calls (d := 58) (f := 18) (vs := [.slice A3 (y4).length cap3, .int .i64 (1)]) (by kernel_rfl) ent18 (c_laws_markPointS hy9 F3) ?_
      rintro _ w9 ⟨rfl, F6, hl1, hc9⟩
      replace F0 := F0.chg hc9 (Dj.app (Dj.of L0 G4) Dj.nil)
      replace F1 := F1.chg hc9 (Dj.app D1 Dj.nil)
      replace F2 := F2.chg hc9 (Dj.app D2 Dj.nil)
      replace F4 := F4.chg hc9 (Dj.app (D5).symm Dj.nil)
      replace F5 := F5.chg hc9 (Dj.app (D8).symm Dj.nil)
      replace hB := hB.inS hc9 (inApp (inLow G4) inNil)
      replace hZ := Nat.le_trans hZ hc9.size
      clear F3
      refine ⟨.int .i64 (y9.1), rfl, ?_⟩
      rewrite [(show (y4).length = (y9.2).length from hl1.symm)]
      refine wS_pure 1 [(11, .int .i64 (y9.1))] (by kernel_rfl) ?_
      refine wS_end (by rfl) ?_
      refine eX_then ?_
      refine cW_seq ?_
      refine cW_seq ?_
      refine cW_region ?_
      refine wS_pure 3 [(61, .bool (decide (y9.1 < 0))), (60, .bool (decide (y9.1 < 0))), (59, .int .i64 (y9.1))] (by kernel_rfl) ?_
      refine wS_bool (decide (y9.1 < 0)) (fun hb6 => ?_) (fun hb6 => ?_)
      ·have hm := condT hb6 hm
       rewrite [hb6]
       refine wS_pure 15 [(76, .bool (true)), (75, undef), (74, undef), (73, undef), (72, .bool (true)), (71, .bool (true)), (70, undef), (69, undef), (68, undef), (67, .bool (true)), (66, .bool (true)), (65, undef), (64, undef), (63, undef), (62, undef)] (by kernel_rfl) ?_
       refine wS_end (by rfl) ?_
       refine eX_then ?_
       refine cW_prune [(0, .slice A0 (l0).length cap0), (4, .slice A2 (y3.1).length cap2), (5, .int .i64 (y3.2.1)), (6, .bool (y3.2.2)), (8, .slice A4 (y5.1).length cap4), (76, .bool (true))] (by kernel_rfl) (by kernel_rfl) (fun a3 => ?_)
       refine cW_cond_t (by kernel_rfl) ?_
       refine cW_seq ?_
       refine cW_region ?_
       refine wS_pure 1 [(2, .bool (false))] (by kernel_rfl) ?_
       refine wS_end (by rfl) ?_
       refine eX_then ?_
       refine cW_ret ?_
       refine eX_then_ret ?_
       have hq : (some false : Option ((Bool))) = some _ := hm
       replace hq := someE hq
       subst hq
       refine eX_ret (vs := [.bool (false)]) [.tmp 2] (by rfl) ⟨by (show lkE _ _ _ = _); kernel_rfl, trivial⟩ ?_
       exact ⟨rfl, hB⟩
      ·have hm := condF hb6 hm
       rewrite [hb6]
       refine wS_pure 2 [(63, .slice A2 (y3.1).length cap2), (62, .slice A4 (y5.1).length cap4)] (by kernel_rfl) ?_
       obtain ⟨y10, hy10, hm⟩ := bindE hm
       refine wS_calls (d := 64) (f := 16) (vs := [.slice A4 (y5.1).length cap4, .slice A2 (y3.1).length cap2]) (by kernel_rfl) ent16 (c_laws_eqInt64SS hy10 (F4.slr encI_ok) F2) ?_
       rintro _ w10 ⟨rfl, hc10⟩
       replace F0 := F0.chg hc10 Dj.nil
       replace F1 := F1.chg hc10 Dj.nil
       replace F2 := F2.chg hc10 Dj.nil
       replace F6 := F6.chg hc10 Dj.nil
       replace F4 := F4.chg hc10 Dj.nil
       replace F5 := F5.chg hc10 Dj.nil
       replace hB := hB.inS hc10 inNil
       replace hZ := Nat.le_trans hZ hc10.size
       refine ⟨.bool (y10), rfl, ?_⟩
       refine wS_pure 3 [(67, .bool (!y10)), (66, .bool (!y10)), (65, .bool (!y10))] (by kernel_rfl) ?_
       refine wS_bool (!y10) (fun hb7 => ?_) (fun hb7 => ?_)
       ·have hm := condT hb7 hm
        rewrite [hb7]
        refine wS_pure 9 [(76, .bool (true)), (75, undef), (74, undef), (73, undef), (72, .bool (true)), (71, .bool (true)), (70, undef), (69, undef), (68, undef)] (by kernel_rfl) ?_
        refine wS_end (by rfl) ?_
        refine eX_then ?_
        refine cW_prune [(0, .slice A0 (l0).length cap0), (4, .slice A2 (y3.1).length cap2), (5, .int .i64 (y3.2.1)), (6, .bool (y3.2.2)), (8, .slice A4 (y5.1).length cap4), (76, .bool (true))] (by kernel_rfl) (by kernel_rfl) (fun a4 => ?_)
        refine cW_cond_t (by kernel_rfl) ?_
        refine cW_seq ?_
        refine cW_region ?_
        refine wS_pure 1 [(2, .bool (false))] (by kernel_rfl) ?_
        refine wS_end (by rfl) ?_
        refine eX_then ?_
        refine cW_ret ?_
        refine eX_then_ret ?_
        have hq : (some false : Option ((Bool))) = some _ := hm
        replace hq := someE hq
        subst hq
        refine eX_ret (vs := [.bool (false)]) [.tmp 2] (by rfl) ⟨by (show lkE _ _ _ = _); kernel_rfl, trivial⟩ ?_
        exact ⟨rfl, hB⟩
       ·have hm := condF hb7 hm
        rewrite [hb7]
        refine wS_pure 5 [(72, .bool (y5.2.1 != y3.2.1)), (71, .bool (y5.2.1 != y3.2.1)), (70, .bool (y5.2.1 != y3.2.1)), (69, .int .i64 (y3.2.1)), (68, .int .i64 (y5.2.1))] (by kernel_rfl) ?_
        refine wS_bool (y5.2.1 != y3.2.1) (fun hb8 => ?_) (fun hb8 => ?_)
        ·have hm := condT hb8 hm
         rewrite [hb8]
         refine wS_pure 4 [(76, .bool (true)), (75, undef), (74, undef), (73, undef)] (by kernel_rfl) ?_
         refine wS_end (by rfl) ?_
         refine eX_then ?_
         refine cW_prune [(0, .slice A0 (l0).length cap0), (4, .slice A2 (y3.1).length cap2), (5, .int .i64 (y3.2.1)), (6, .bool (y3.2.2)), (8, .slice A4 (y5.1).length cap4), (76, .bool (true))] (by kernel_rfl) (by kernel_rfl) (fun a5 => ?_)
         refine cW_cond_t (by kernel_rfl) ?_
         refine cW_seq ?_
         refine cW_region ?_
         refine wS_pure 1 [(2, .bool (false))] (by kernel_rfl) ?_
         refine wS_end (by rfl) ?_
         refine eX_then ?_
         refine cW_ret ?_
         refine eX_then_ret ?_
         have hq : (some false : Option ((Bool))) = some _ := hm
         replace hq := someE hq
         subst hq
         refine eX_ret (vs := [.bool (false)]) [.tmp 2] (by rfl) ⟨by (show lkE _ _ _ = _); kernel_rfl, trivial⟩ ?_
         exact ⟨rfl, hB⟩
        ·have hm := condF hb8 hm
         rewrite [hb8]
         refine wS_pure 4 [(76, .bool (!(y5.2.2 == y3.2.2))), (75, .bool (!(y5.2.2 == y3.2.2))), (74, .bool (y3.2.2)), (73, .bool (y5.2.2))] (by kernel_rfl) ?_
         refine wS_end (by rfl) ?_
         refine eX_then ?_
         refine cW_prune [(0, .slice A0 (l0).length cap0), (4, .slice A2 (y3.1).length cap2), (5, .int .i64 (y3.2.1)), (6, .bool (y3.2.2)), (8, .slice A4 (y5.1).length cap4), (76, .bool (!(y5.2.2 == y3.2.2)))] (by kernel_rfl) (by kernel_rfl) (fun a6 => ?_)
         refine cW_cond (t := !(y5.2.2 == y3.2.2)) (by kernel_rfl) (fun hb9 => ?_) (fun hb9 => ?_)
         ·have hm := condT hb9 hm
          refine cW_seq ?_
          refine cW_region ?_
          refine wS_pure 1 [(2, .bool (false))] (by kernel_rfl) ?_
          refine wS_end (by rfl) ?_
          refine eX_then ?_
          refine cW_ret ?_
          refine eX_then_ret ?_
          have hq : (some false : Option ((Bool))) = some _ := hm
          replace hq := someE hq
          subst hq
          refine eX_ret (vs := [.bool (false)]) [.tmp 2] (by rfl) ⟨by (show lkE _ _ _ = _); kernel_rfl, trivial⟩ ?_
          exact ⟨rfl, hB⟩
         ·have hm := condF hb9 hm
          refine cW_skip ?_
          refine eX_then ?_
          refine cW_seq ?_
          refine cW_region ?_
          refine wS_pure 1 [(12, .int .i64 (1))] (by kernel_rfl) ?_
          refine wS_end (by rfl) ?_
          refine eX_then ?_
          refine cW_seq ?_
          refine cW_region ?_
          refine wS_pure 2 [(78, .int .i64 (1)), (77, .slice A4 (y5.1).length cap4)] (by kernel_rfl) ?_
          obtain ⟨y11, hy11, hm⟩ := bindE hm
          refine wS_calls (d := 79) (f := 19) (vs := [.slice A4 (y5.1).length cap4, .int .i64 (1)]) (by kernel_rfl) ent19 (c_laws_markInt64SS hy11 F4) ?_
          rintro _ w11 ⟨rfl, F7, hl2, hc11⟩
          replace F0 := F0.chg hc11 (Dj.app (Dj.of L0 G5) Dj.nil)
          replace F1 := F1.chg hc11 (Dj.app D3 Dj.nil)
          replace F2 := F2.chg hc11 (Dj.app D4 Dj.nil)
          replace F6 := F6.chg hc11 (Dj.app D5 Dj.nil)
          replace F5 := F5.chg hc11 (Dj.app (D9).symm Dj.nil)
          replace hB := hB.inS hc11 (inApp (inLow G5) inNil)
          replace hZ := Nat.le_trans hZ hc11.size
          clear F4
          refine ⟨.int .i64 (y11.1), rfl, ?_⟩
          rewrite [(show (y5.1).length = (y11.2).length from hl2.symm)]
          refine wS_pure 1 [(12, .int .i64 (y11.1))] (by kernel_rfl) ?_
          refine wS_end (by rfl) ?_
          refine eX_then ?_
          refine cW_seq ?_
          refine cW_region ?_
          refine wS_pure 1 [(13, .int .i64 (1))] (by kernel_rfl) ?_
          refine wS_end (by rfl) ?_
          refine eX_then ?_
          refine cW_seq ?_
          refine cW_region ?_
          refine wS_pure 2 [(81, .int .i64 (1)), (80, .slice A4 (y11.2).length cap4)] (by kernel_rfl) ?_
          obtain ⟨y12, hy12, hm⟩ := bindE hm
          refine wS_calls (d := 82) (f := 20) (vs := [.slice A4 (y11.2).length cap4, .int .i64 (1)]) (by kernel_rfl) ent20 (c_laws_heldInt64SS hy12 (F7.slr encI_ok)) ?_
          rintro _ w12 ⟨rfl, hc12⟩
          replace F0 := F0.chg hc12 Dj.nil
          replace F1 := F1.chg hc12 Dj.nil
          replace F2 := F2.chg hc12 Dj.nil
          replace F6 := F6.chg hc12 Dj.nil
          replace F7 := F7.chg hc12 Dj.nil
          replace F5 := F5.chg hc12 Dj.nil
          replace hB := hB.inS hc12 inNil
          replace hZ := Nat.le_trans hZ hc12.size
          refine ⟨.int .i64 (y12), rfl, ?_⟩
          refine wS_pure 1 [(13, .int .i64 (y12))] (by kernel_rfl) ?_
          refine wS_end (by rfl) ?_
          refine eX_then ?_
          refine cW_seq ?_
          refine cW_seq ?_
          refine cW_region ?_
          refine wS_pure 2 [(84, .bool (decide (y12 < 0))), (83, .int .i64 (y12))] (by kernel_rfl) ?_
          refine wS_end (by rfl) ?_
          refine eX_then ?_
          refine cW_cond (t := decide (y12 < 0)) (by kernel_rfl) (fun hb10 => ?_) (fun hb10 => ?_)
          ·have hm := condT hb10 hm
           refine cW_seq ?_
           refine cW_region ?_
           refine wS_pure 1 [(2, .bool (false))] (by kernel_rfl) ?_
           refine wS_end (by rfl) ?_
           refine eX_then ?_
           refine cW_ret ?_
           refine eX_then_ret ?_
           have hq : (some false : Option ((Bool))) = some _ := hm
           replace hq := someE hq
           subst hq
           refine eX_ret (vs := [.bool (false)]) [.tmp 2] (by rfl) ⟨by (show lkE _ _ _ = _); kernel_rfl, trivial⟩ ?_
           exact ⟨rfl, hB⟩
          ·have hm := condF hb10 hm
           refine cW_skip ?_
           refine eX_then ?_
           refine cW_seq ?_
           refine cW_seq ?_
           refine cW_region ?_
           refine wS_pure 3 [(87, .bool (y12 != y11.1)), (86, .int .i64 (y11.1)), (85, .int .i64 (y12))] (by kernel_rfl) ?_
           refine wS_end (by rfl) ?_
           refine eX_then ?_
           refine cW_cond (t := y12 != y11.1) (by kernel_rfl) (fun hb11 => ?_) (fun hb11 => ?_)
           ·have hm := condT hb11 hm
            refine cW_seq ?_
            refine cW_region ?_
            refine wS_pure 1 [(2, .bool (false))] (by kernel_rfl) ?_
            refine wS_end (by rfl) ?_
            refine eX_then ?_
            refine cW_ret ?_
            refine eX_then_ret ?_
            have hq : (some false : Option ((Bool))) = some _ := hm
            replace hq := someE hq
            subst hq
            refine eX_ret (vs := [.bool (false)]) [.tmp 2] (by rfl) ⟨by (show lkE _ _ _ = _); kernel_rfl, trivial⟩ ?_
            exact ⟨rfl, hB⟩
           ·have hm := condF hb11 hm
            refine cW_skip ?_
            refine eX_then ?_
            refine cW_seq ?_
            refine cW_region ?_
            refine wS_pure 1 [(89, .slice A0 (l0).length cap0)] (by kernel_rfl) ?_
            obtain ⟨y13, hy13, hm⟩ := bindE hm
            refine wS_calls (d := 90) (f := 15) (vs := [.slice A0 (l0).length cap0]) (by kernel_rfl) ent15 (c_laws_toPointS hy13 F0) ?_
            rintro _ w13 ⟨A6, cap6, fp6, rfl, F8, G7, hc13⟩
            have D10 : Dj fp1 fp6 := Dj.of F1.low G7
            have D11 : Dj fp2 fp6 := Dj.of F2.low G7
            have D12 : Dj fp3 fp6 := Dj.of F6.low G7
            have D13 : Dj (fp4 ++ fr1) fp6 := Dj.of F7.low G7
            have D14 : Dj fp5 fp6 := Dj.of F5.low G7
            replace F0 := F0.chg hc13 Dj.nil
            replace F1 := F1.chg hc13 Dj.nil
            replace F2 := F2.chg hc13 Dj.nil
            replace F6 := F6.chg hc13 Dj.nil
            replace F7 := F7.chg hc13 Dj.nil
            replace F5 := F5.chg hc13 Dj.nil
            replace hB := hB.inS hc13 inNil
            replace G7 := low_le hZ G7
            replace hZ := Nat.le_trans hZ hc13.size
            refine ⟨.slice A6 (y13).length cap6, rfl, ?_⟩
            obtain ⟨y14, hy14, hm⟩ := bindE hm
            refine wS_calls (d := 91) (f := 7) (vs := [.slice A6 (y13).length cap6]) (by kernel_rfl) ent7 (c_impl_BestJoins hy14 (F8.sl encII_ok)) ?_
            rintro _ w14 ⟨A7, cap7, fp7, fr2, rfl, F9, G8, hc14⟩
            have D15 : Dj fp1 (fp7 ++ fr2) := Dj.of F1.low G8
            have D16 : Dj fp2 (fp7 ++ fr2) := Dj.of F2.low G8
            have D17 : Dj fp3 (fp7 ++ fr2) := Dj.of F6.low G8
            have D18 : Dj (fp4 ++ fr1) (fp7 ++ fr2) := Dj.of F7.low G8
            have D19 : Dj fp5 (fp7 ++ fr2) := Dj.of F5.low G8
            have D20 : Dj fp6 (fp7 ++ fr2) := Dj.of F8.low G8
            replace F0 := F0.chg hc14 Dj.nil
            replace F1 := F1.chg hc14 Dj.nil
            replace F2 := F2.chg hc14 Dj.nil
            replace F6 := F6.chg hc14 Dj.nil
            replace F7 := F7.chg hc14 Dj.nil
            replace F5 := F5.chg hc14 Dj.nil
            replace F8 := F8.chg hc14 Dj.nil
            replace hB := hB.inS hc14 inNil
            replace G8 := low_le hZ G8
            replace hZ := Nat.le_trans hZ hc14.size
            refine ⟨.tuple #[.slice A7 (y14.1).length cap7, .int .i64 (y14.2.1), .bool (y14.2.2)], rfl, ?_⟩
            refine wS_pure 7 [(16, .bool (y14.2.2)), (15, .int .i64 (y14.2.1)), (14, .slice A7 (y14.1).length cap7), (94, .bool (y14.2.2)), (93, .int .i64 (y14.2.1)), (92, .slice A7 (y14.1).length cap7), (88, .tuple #[.slice A7 (y14.1).length cap7, .int .i64 (y14.2.1), .bool (y14.2.2)])] (by kernel_rfl) ?_
            refine wS_end (by rfl) ?_
            refine eX_then ?_
            refine cW_prune [(4, .slice A2 (y3.1).length cap2), (5, .int .i64 (y3.2.1)), (6, .bool (y3.2.2)), (8, .slice A4 (y11.2).length cap4), (12, .int .i64 (y11.1)), (14, .slice A7 (y14.1).length cap7), (15, .int .i64 (y14.2.1)), (16, .bool (y14.2.2))] (by kernel_rfl) (by kernel_rfl) (fun a7 => ?_)
            refine cW_seq ?_
            refine cW_seq ?_
            refine cW_region ?_
            refine wS_pure 2 [(96, .slice A2 (y3.1).length cap2), (95, .slice A7 (y14.1).length cap7)] (by kernel_rfl) ?_
            obtain ⟨y15, hy15, hm⟩ := bindE hm
            refine wS_calls (d := 97) (f := 16) (vs := [.slice A7 (y14.1).length cap7, .slice A2 (y3.1).length cap2]) (by kernel_rfl) ent16 (c_laws_eqInt64SS hy15 (F9.slr encI_ok) F2) ?_
            rintro _ w15 ⟨rfl, hc15⟩
            replace F0 := F0.chg hc15 Dj.nil
            replace F1 := F1.chg hc15 Dj.nil
            replace F2 := F2.chg hc15 Dj.nil
            replace F6 := F6.chg hc15 Dj.nil
            replace F7 := F7.chg hc15 Dj.nil
            replace F5 := F5.chg hc15 Dj.nil
            replace F8 := F8.chg hc15 Dj.nil
            replace F9 := F9.chg hc15 Dj.nil
            replace hB := hB.inS hc15 inNil
            replace hZ := Nat.le_trans hZ hc15.size
            refine ⟨.bool (y15), rfl, ?_⟩
            refine wS_pure 2 [(99, .bool (!y15)), (98, .bool (!y15))] (by kernel_rfl) ?_
            refine wS_bool (!y15) (fun hb12 => ?_) (fun hb12 => ?_)
            ·have hm := condT hb12 hm
             rewrite [hb12]
             refine wS_pure 9 [(108, .bool (true)), (107, undef), (106, undef), (105, undef), (104, .bool (true)), (103, .bool (true)), (102, undef), (101, undef), (100, undef)] (by kernel_rfl) ?_
             refine wS_end (by rfl) ?_
             refine eX_then ?_
             refine cW_cond_t (by kernel_rfl) ?_
             refine cW_seq ?_
             refine cW_region ?_
             refine wS_pure 1 [(2, .bool (false))] (by kernel_rfl) ?_
             refine wS_end (by rfl) ?_
             refine eX_then ?_
             refine cW_ret ?_
             refine eX_then_ret ?_
             have hq : (some false : Option ((Bool))) = some _ := hm
             replace hq := someE hq
             subst hq
             refine eX_ret (vs := [.bool (false)]) [.tmp 2] (by rfl) ⟨by (show lkE _ _ _ = _); kernel_rfl, trivial⟩ ?_
             exact ⟨rfl, hB⟩
            ·have hm := condF hb12 hm
             rewrite [hb12]
             refine wS_pure 5 [(104, .bool (y14.2.1 != y3.2.1)), (103, .bool (y14.2.1 != y3.2.1)), (102, .bool (y14.2.1 != y3.2.1)), (101, .int .i64 (y3.2.1)), (100, .int .i64 (y14.2.1))] (by kernel_rfl) ?_
             refine wS_bool (y14.2.1 != y3.2.1) (fun hb13 => ?_) (fun hb13 => ?_)
             ·have hm := condT hb13 hm
              rewrite [hb13]
              refine wS_pure 4 [(108, .bool (true)), (107, undef), (106, undef), (105, undef)] (by kernel_rfl) ?_
              refine wS_end (by rfl) ?_
              refine eX_then ?_
              refine cW_cond_t (by kernel_rfl) ?_
              refine cW_seq ?_
              refine cW_region ?_
              refine wS_pure 1 [(2, .bool (false))] (by kernel_rfl) ?_
              refine wS_end (by rfl) ?_
              refine eX_then ?_
              refine cW_ret ?_
              refine eX_then_ret ?_
              have hq : (some false : Option ((Bool))) = some _ := hm
              replace hq := someE hq
              subst hq
              refine eX_ret (vs := [.bool (false)]) [.tmp 2] (by rfl) ⟨by (show lkE _ _ _ = _); kernel_rfl, trivial⟩ ?_
              exact ⟨rfl, hB⟩
             ·have hm := condF hb13 hm
              rewrite [hb13]
              refine wS_pure 4 [(108, .bool (!(y14.2.2 == y3.2.2))), (107, .bool (!(y14.2.2 == y3.2.2))), (106, .bool (y3.2.2)), (105, .bool (y14.2.2))] (by kernel_rfl) ?_
              refine wS_end (by rfl) ?_
              refine eX_then ?_
              refine cW_cond (t := !(y14.2.2 == y3.2.2)) (by kernel_rfl) (fun hb14 => ?_) (fun hb14 => ?_)
              ·have hm := condT hb14 hm
               refine cW_seq ?_
               refine cW_region ?_
               refine wS_pure 1 [(2, .bool (false))] (by kernel_rfl) ?_
               refine wS_end (by rfl) ?_
               refine eX_then ?_
               refine cW_ret ?_
               refine eX_then_ret ?_
               have hq : (some false : Option ((Bool))) = some _ := hm
               replace hq := someE hq
               subst hq
               refine eX_ret (vs := [.bool (false)]) [.tmp 2] (by rfl) ⟨by (show lkE _ _ _ = _); kernel_rfl, trivial⟩ ?_
               exact ⟨rfl, hB⟩
              ·have hm := condF hb14 hm
               refine cW_skip ?_
               refine eX_then ?_
               refine cW_seq ?_
               refine cW_region ?_
               refine wS_pure 1 [(13, .int .i64 (1))] (by kernel_rfl) ?_
               refine wS_end (by rfl) ?_
               refine eX_then ?_
               refine cW_seq ?_
               refine cW_region ?_
               refine wS_pure 2 [(110, .int .i64 (1)), (109, .slice A4 (y11.2).length cap4)] (by kernel_rfl) ?_
               obtain ⟨y16, hy16, hm⟩ := bindE hm
               refine wS_calls (d := 111) (f := 20) (vs := [.slice A4 (y11.2).length cap4, .int .i64 (1)]) (by kernel_rfl) ent20 (c_laws_heldInt64SS hy16 (F7.slr encI_ok)) ?_
               rintro _ w16 ⟨rfl, hc16⟩
               replace F0 := F0.chg hc16 Dj.nil
               replace F1 := F1.chg hc16 Dj.nil
               replace F2 := F2.chg hc16 Dj.nil
               replace F6 := F6.chg hc16 Dj.nil
               replace F7 := F7.chg hc16 Dj.nil
               replace F5 := F5.chg hc16 Dj.nil
               replace F8 := F8.chg hc16 Dj.nil
               replace F9 := F9.chg hc16 Dj.nil
               replace hB := hB.inS hc16 inNil
               replace hZ := Nat.le_trans hZ hc16.size
               refine ⟨.int .i64 (y16), rfl, ?_⟩
               refine wS_pure 1 [(13, .int .i64 (y16))] (by kernel_rfl) ?_
               refine wS_end (by rfl) ?_
               refine eX_then ?_
               refine cW_prune [(12, .int .i64 (y11.1)), (13, .int .i64 (y16))] (by kernel_rfl) (by kernel_rfl) (fun a8 => ?_)
               refine cW_seq ?_
               refine cW_seq ?_
               refine cW_region ?_
               refine wS_pure 2 [(113, .bool (decide (y16 < 0))), (112, .int .i64 (y16))] (by kernel_rfl) ?_
               refine wS_end (by rfl) ?_
               refine eX_then ?_
               refine cW_cond (t := decide (y16 < 0)) (by kernel_rfl) (fun hb15 => ?_) (fun hb15 => ?_)
               ·have hm := condT hb15 hm
                refine cW_seq ?_
                refine cW_region ?_
                refine wS_pure 1 [(2, .bool (false))] (by kernel_rfl) ?_
                refine wS_end (by rfl) ?_
                refine eX_then ?_
                refine cW_ret ?_
                refine eX_then_ret ?_
                have hq : (some false : Option ((Bool))) = some _ := hm
                replace hq := someE hq
                subst hq
                refine eX_ret (vs := [.bool (false)]) [.tmp 2] (by rfl) ⟨by (show lkE _ _ _ = _); kernel_rfl, trivial⟩ ?_
                exact ⟨rfl, hB⟩
               ·have hm := condF hb15 hm
                refine cW_skip ?_
                refine eX_then ?_
                refine cW_seq ?_
                refine cW_seq ?_
                refine cW_region ?_
                refine wS_pure 3 [(116, .bool (y16 != y11.1)), (115, .int .i64 (y11.1)), (114, .int .i64 (y16))] (by kernel_rfl) ?_
                refine wS_end (by rfl) ?_
                refine eX_then ?_
                refine cW_cond (t := y16 != y11.1) (by kernel_rfl) (fun hb16 => ?_) (fun hb16 => ?_)
                ·have hm := condT hb16 hm
                 refine cW_seq ?_
                 refine cW_region ?_
                 refine wS_pure 1 [(2, .bool (false))] (by kernel_rfl) ?_
                 refine wS_end (by rfl) ?_
                 refine eX_then ?_
                 refine cW_ret ?_
                 refine eX_then_ret ?_
                 have hq : (some false : Option ((Bool))) = some _ := hm
                 replace hq := someE hq
                 subst hq
                 refine eX_ret (vs := [.bool (false)]) [.tmp 2] (by rfl) ⟨by (show lkE _ _ _ = _); kernel_rfl, trivial⟩ ?_
                 exact ⟨rfl, hB⟩
                ·have hm := condF hb16 hm
                 refine cW_skip ?_
                 refine eX_then ?_
                 refine cW_seq ?_
                 refine cW_region ?_
                 refine wS_pure 1 [(2, .bool (true))] (by kernel_rfl) ?_
                 refine wS_end (by rfl) ?_
                 refine eX_then ?_
                 refine cW_ret ?_
                 have hq : (some true : Option ((Bool))) = some _ := hm
                 replace hq := someE hq
                 subst hq
                 refine eX_ret (vs := [.bool (true)]) [.tmp 2] (by rfl) ⟨by (show lkE _ _ _ = _); kernel_rfl, trivial⟩ ?_
                 exact ⟨rfl, hB⟩

end Go.Proofs.Ytfjpfomdoohabaa
