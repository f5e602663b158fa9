/- Printed walks: laws.toMaze, laws.toPoint, laws.eqInt64S, laws.eqInt64SS, laws.eqMaze, laws.FnExactMostApart, spec.l04Sorted, spec.FewestBlocks, laws.eqPoint, laws.eqPointS, laws.markInt64S, laws.markInt64SS, laws.markMaze, laws.markPointS, laws.heldPointS, laws.FnExactFewestBlocks. -/
import Derived.Test.YtcknpoeannbpbaaProg
import Derived.Test.YtcknpoeannbpbaaWMz02
set_option linter.unusedSimpArgs false
set_option linter.unusedVariables false
namespace Go.Proofs.Ytcknpoeannbpbaa
open Go.RowKit
attribute [local irreducible] wS cW eX wH

theorem ent9 : Ent Try.prog 9 := fun _ => by kernel_rfl
theorem ent10 : Ent Try.prog 10 := fun _ => by kernel_rfl
theorem ent14 : Ent Try.prog 14 := fun _ => by kernel_rfl
theorem ent15 : Ent Try.prog 15 := fun _ => by kernel_rfl
theorem ent16 : Ent Try.prog 16 := fun _ => by kernel_rfl
theorem ent17 : Ent Try.prog 17 := fun _ => by kernel_rfl
theorem ent18 : Ent Try.prog 18 := fun _ => by kernel_rfl
theorem ent19 : Ent Try.prog 19 := fun _ => by kernel_rfl
theorem ent20 : Ent Try.prog 20 := fun _ => by kernel_rfl
theorem ent21 : Ent Try.prog 21 := fun _ => by kernel_rfl
theorem ent22 : Ent Try.prog 22 := fun _ => by kernel_rfl
theorem ent23 : Ent Try.prog 23 := fun _ => by kernel_rfl
theorem ent40 : Ent Try.prog 40 := fun _ => by kernel_rfl
theorem ent41 : Ent Try.prog 41 := fun _ => by kernel_rfl
theorem ent42 : Ent Try.prog 42 := fun _ => by kernel_rfl
theorem ent43 : Ent Try.prog 43 := fun _ => by kernel_rfl
theorem ent44 : Ent Try.prog 44 := fun _ => by kernel_rfl
theorem ent64 : Ent Try.prog 64 := fun _ => by kernel_rfl
theorem ent65 : Ent Try.prog 65 := fun _ => by kernel_rfl
theorem vt41 : VarTy Try.prog 41 1 true := ⟨by kernel_rfl, by kernel_rfl⟩
theorem vt42 : VarTy Try.prog 42 2 true := ⟨by kernel_rfl, by kernel_rfl⟩
theorem sl76 : SlTy Try.prog 76 4 1 := ⟨Try.underlying76, by kernel_rfl⟩
theorem el76 : ElTy Try.prog 76 4 1 (.bool (false)) := ElTy.mk' Try.underlying76 (by kernel_rfl) (by rfl)
theorem sz4 : pureRun Try.prog (sizeOf 4) = some 1 := by kernel_rfl
theorem sz24 : pureRun Try.prog (sizeOf 24) = some 1 := by kernel_rfl
theorem sz26 : pureRun Try.prog (sizeOf 26) = some 1 := by kernel_rfl

set_option maxRecDepth 100000 in
/-- laws.toMaze -/
theorem c_laws_toMaze {w0 : World} {l0_0 : List (List (Int))} {A0_0 : Option Addr} {cap0_0 : Nat} {fp0_0 : List Nat} {r : ((List (List (Int))))} (hm : m_laws_toMaze l0_0 = some r) (F0_0 : SlR 1 encI w0 fp0_0 A0_0 l0_0) :
  Calls Try.prog 16 #[.agg #[.slice A0_0 (l0_0).length cap0_0]] w0 fun e w' => ∃ A100_0 cap100_0 fp100_0 fr100_0, e = .returned (.agg #[.slice A100_0 (r).length cap100_0]) ∧ OwR 1 encI 38 2 w' fp100_0 fr100_0 A100_0 cap100_0 r ∧ (∀ x ∈ fp100_0 ++ fr100_0, w0.heap.size ≤ x) ∧ Chg [] w0 w' := by
 have L0_0 := F0_0.low
 have hB : Chg [] w0 w0 := Chg.refl _ _
 have hZ := Nat.le_refl w0.heap.size
 unfold m_laws_toMaze at hm
 refine enterE (N := 9) Try.func16 (by rfl) Try.ntmps16 (by simp) [(0, .agg #[.slice A0_0 (l0_0).length cap0_0])] (by rfl) (by kernel_rfl) (fun a => ?_)
 refine cW_seq ?_
 refine cW_region ?_
 refine wS_box (d := 1) (T := 41) (x := .agg #[.slice A0_0 (l0_0).length cap0_0]) (by kernel_rfl) ?_
 intro b1 w1 G1 F1 hc1
 replace F1 : Cl w1 b1 41 [.slice A0_0 (l0_0).length cap0_0] := F1
 replace F0_0 := F0_0.chg hc1 Dj.nil
 replace hB := hB.inS hc1 inNil
 replace G1 := Nat.le_trans hZ G1
 replace hZ := Nat.le_trans hZ hc1.size
 refine wS_alloc (d := 2) (T := 26) (z := .agg #[.slice none 0 0]) (by kernel_rfl) (by kernel_rfl) ?_
 intro b2 w2 G2 F2 hc2
 replace F2 : Cl w2 b2 26 [.slice none 0 0] := F2
 have D1 : Dj [b1] [b2] := Dj.of (lt1 F1.lt) (low1 G2)
 replace F0_0 := F0_0.chg hc2 Dj.nil
 replace F1 := F1.chg hc2 notNil
 replace hB := hB.inS hc2 inNil
 replace G2 := Nat.le_trans hZ G2
 replace hZ := Nat.le_trans hZ hc2.size
 refine wS_end (by rfl) ?_
 refine eX_then ?_
 refine cW_seq ?_
 refine cW_region ?_
 refine wS_alloc (d := 3) (T := 26) (z := .agg #[.slice none 0 0]) (by kernel_rfl) (by kernel_rfl) ?_
 intro b3 w3 G3 F3 hc3
 replace F3 : Cl w3 b3 26 [.slice none 0 0] := F3
 have D2 : Dj [b1] [b3] := Dj.of (lt1 F1.lt) (low1 G3)
 have D3 : Dj [b2] [b3] := Dj.of (lt1 F2.lt) (low1 G3)
 replace F0_0 := F0_0.chg hc3 Dj.nil
 replace F1 := F1.chg hc3 notNil
 replace F2 := F2.chg hc3 notNil
 replace hB := hB.inS hc3 inNil
 replace G3 := Nat.le_trans hZ G3
 replace hZ := Nat.le_trans hZ hc3.size
 refine wS_end (by rfl) ?_
 refine eX_then ?_
 refine cW_seq ?_
 refine cW_region ?_
 refine wS_pure 1 [(4, .pointer (some ⟨b1, 0, none⟩))] (by kernel_rfl) ?_
 refine wS_load1 (d := 5) (T := 24) (ad := ⟨b1, 0, none⟩) (v := .slice A0_0 (l0_0).length cap0_0) (by kernel_rfl) vt24 ((F1).cell 0) ?_
 obtain ⟨y1, hy1, hm⟩ := bindE hm
 refine wS_calls (d := 6) (f := 40) (vs := [.slice A0_0 (l0_0).length cap0_0]) (by kernel_rfl) ent40 (c_laws_toInt64SS hy1 F0_0) ?_
 rintro _ w4 ⟨A1, cap1, fp1, fr1, rfl, F4, G4, hc4⟩
 have D4 : Dj [b1] (fp1 ++ fr1) := Dj.of (lt1 F1.lt) G4
 have D5 : Dj [b2] (fp1 ++ fr1) := Dj.of (lt1 F2.lt) G4
 have D6 : Dj [b3] (fp1 ++ fr1) := Dj.of (lt1 F3.lt) G4
 replace F0_0 := F0_0.chg hc4 Dj.nil
 replace F1 := F1.chg hc4 notNil
 replace F2 := F2.chg hc4 notNil
 replace F3 := F3.chg hc4 notNil
 replace hB := hB.inS hc4 inNil
 replace G4 := low_le hZ G4
 replace hZ := Nat.le_trans hZ hc4.size
 refine ⟨.slice A1 (y1).length cap1, rfl, ?_⟩
 refine wS_pure 1 [(7, .pointer (some ⟨b3, 0, none⟩))] (by kernel_rfl) ?_
 refine wS_store (T := 24) (g := b3) (o := 0) (ad := ⟨b3, 0, none⟩) (v := .slice A1 (y1).length cap1) (vs := [.slice A1 (y1).length cap1]) (by kernel_rfl) (by rfl) sz24 (by rfl) (by rfl) F3 (by simp only [List.length_cons, List.length_nil]; omega) ?_
 intro w5 F5 hc5
 replace F0_0 := F0_0.chg hc5 (Dj.of L0_0 (low1 G3))
 replace F1 := F1.chg hc5 (dj1 D2)
 replace F2 := F2.chg hc5 (dj1 D3)
 replace F4 := F4.chg hc5 (D6).symm
 replace hB := hB.inS hc5 (inLow (low1 G3))
 replace hZ := Nat.le_trans hZ hc5.size
 replace F5 : Cl w5 b3 26 [.slice A1 (y1).length cap1] := F5
 clear F3
 refine wS_end (by rfl) ?_
 refine eX_then ?_
 refine cW_seq ?_
 refine cW_region ?_
 refine wS_loadA (d := 8) (T := 26) (ad := ⟨b3, 0, none⟩) (vs := [.slice A1 (y1).length cap1]) (by kernel_rfl) vt26 (fun i u hu => box_cells F5 0 hu (by rfl)) ?_
 refine wS_store (T := 26) (g := b2) (o := 0) (ad := ⟨b2, 0, none⟩) (v := .agg #[.slice A1 (y1).length cap1]) (vs := [.slice A1 (y1).length cap1]) (by kernel_rfl) (by rfl) sz26 (by rfl) (by rfl) F2 (by simp only [List.length_cons, List.length_nil]; omega) ?_
 intro w6 F6 hc6
 replace F0_0 := F0_0.chg hc6 (Dj.of L0_0 (low1 G2))
 replace F1 := F1.chg hc6 (dj1 D1)
 replace F5 := F5.chg hc6 (dj1 (D3).symm)
 replace F4 := F4.chg hc6 (D5).symm
 replace hB := hB.inS hc6 (inLow (low1 G2))
 replace hZ := Nat.le_trans hZ hc6.size
 replace F6 : Cl w6 b2 26 [.slice A1 (y1).length cap1] := F6
 clear F2
 refine wS_end (by rfl) ?_
 refine eX_then ?_
 refine cW_ret ?_
 have hq : (some ((y1)) : Option (((List (List (Int)))))) = some _ := hm
 replace hq := someE hq
 subst hq
 refine eX_ret (vs := [.agg #[.slice A1 (y1).length cap1]]) [.cell 2 26] (by rfl) ⟨⟨⟨b2, 0, none⟩, by kernel_rfl, run_loadVarA (vs := [.slice A1 (y1).length cap1]) vt26 (fun i u hu => by exact box_cells F6 0 hu (by rfl))⟩, trivial⟩ ?_
 exact ⟨A1, cap1, fp1, fr1, rfl, F4, G4, hB⟩

set_option maxRecDepth 100000 in
/-- laws.toPoint -/
theorem c_laws_toPoint {w0 : World} {p0_0 : Int} {p0_1 : Int} {r : (Int × Int)} (hm : m_laws_toPoint p0_0 p0_1 = some r)  :
  Calls Try.prog 17 #[.agg #[.int .i64 (p0_0), .int .i64 (p0_1)]] w0 fun e w' => e = .returned (.agg #[.int .i64 (r.1), .int .i64 (r.2)]) ∧ Chg [] w0 w' := by
 have hB : Chg [] w0 w0 := Chg.refl _ _
 have hZ := Nat.le_refl w0.heap.size
 unfold m_laws_toPoint at hm
 refine enterE (N := 11) Try.func17 (by rfl) Try.ntmps17 (by simp) [(0, .agg #[.int .i64 (p0_0), .int .i64 (p0_1)])] (by rfl) (by kernel_rfl) (fun a => ?_)
 refine cW_seq ?_
 refine cW_region ?_
 refine wS_box (d := 1) (T := 42) (x := .agg #[.int .i64 (p0_0), .int .i64 (p0_1)]) (by kernel_rfl) ?_
 intro b1 w1 G1 F1 hc1
 replace F1 : Cl w1 b1 42 [.int .i64 (p0_0), .int .i64 (p0_1)] := F1
 replace hB := hB.inS hc1 inNil
 replace G1 := Nat.le_trans hZ G1
 replace hZ := Nat.le_trans hZ hc1.size
 refine wS_alloc (d := 2) (T := 29) (z := .agg #[.int .i64 (0), .int .i64 (0)]) (by kernel_rfl) (by kernel_rfl) ?_
 intro b2 w2 G2 F2 hc2
 replace F2 : Cl w2 b2 29 [.int .i64 (0), .int .i64 (0)] := F2
 have D1 : Dj [b1] [b2] := Dj.of (lt1 F1.lt) (low1 G2)
 replace F1 := F1.chg hc2 notNil
 replace hB := hB.inS hc2 inNil
 replace G2 := Nat.le_trans hZ G2
 replace hZ := Nat.le_trans hZ hc2.size
 refine wS_end (by rfl) ?_
 refine eX_then ?_
 refine cW_seq ?_
 refine cW_region ?_
 refine wS_alloc (d := 3) (T := 29) (z := .agg #[.int .i64 (0), .int .i64 (0)]) (by kernel_rfl) (by kernel_rfl) ?_
 intro b3 w3 G3 F3 hc3
 replace F3 : Cl w3 b3 29 [.int .i64 (0), .int .i64 (0)] := F3
 have D2 : Dj [b1] [b3] := Dj.of (lt1 F1.lt) (low1 G3)
 have D3 : Dj [b2] [b3] := Dj.of (lt1 F2.lt) (low1 G3)
 replace F1 := F1.chg hc3 notNil
 replace F2 := F2.chg hc3 notNil
 replace hB := hB.inS hc3 inNil
 replace G3 := Nat.le_trans hZ G3
 replace hZ := Nat.le_trans hZ hc3.size
 refine wS_end (by rfl) ?_
 refine eX_then ?_
 refine cW_seq ?_
 refine cW_region ?_
 refine wS_pure 1 [(4, .pointer (some ⟨b1, 0, none⟩))] (by kernel_rfl) ?_
 refine wS_load1 (d := 5) (T := 2) (ad := ⟨b1, 0, none⟩) (v := .int .i64 (p0_0)) (by kernel_rfl) vt2 ((F1).cell 0) ?_
 refine wS_pure 1 [(6, .pointer (some ⟨b3, 0, none⟩))] (by kernel_rfl) ?_
 refine wS_store (T := 2) (g := b3) (o := 0) (ad := ⟨b3, 0, none⟩) (v := .int .i64 (p0_0)) (vs := [.int .i64 (p0_0)]) (by kernel_rfl) (by rfl) sz2 (by rfl) (by rfl) F3 (by simp only [List.length_cons, List.length_nil]; omega) ?_
 intro w4 F4 hc4
 replace F1 := F1.chg hc4 (dj1 D2)
 replace F2 := F2.chg hc4 (dj1 D3)
 replace hB := hB.inS hc4 (inLow (low1 G3))
 replace hZ := Nat.le_trans hZ hc4.size
 replace F4 : Cl w4 b3 29 [.int .i64 (p0_0), .int .i64 (0)] := F4
 clear F3
 refine wS_end (by rfl) ?_
 refine eX_then ?_
 refine cW_seq ?_
 refine cW_region ?_
 refine wS_pure 1 [(7, .pointer (some ⟨b1, 1, none⟩))] (by kernel_rfl) ?_
 refine wS_load1 (d := 8) (T := 2) (ad := ⟨b1, 1, none⟩) (v := .int .i64 (p0_1)) (by kernel_rfl) vt2 ((F1).cell 1) ?_
 refine wS_pure 1 [(9, .pointer (some ⟨b3, 1, none⟩))] (by kernel_rfl) ?_
 refine wS_store (T := 2) (g := b3) (o := 1) (ad := ⟨b3, 1, none⟩) (v := .int .i64 (p0_1)) (vs := [.int .i64 (p0_1)]) (by kernel_rfl) (by rfl) sz2 (by rfl) (by rfl) F4 (by simp only [List.length_cons, List.length_nil]; omega) ?_
 intro w5 F5 hc5
 replace F1 := F1.chg hc5 (dj1 D2)
 replace F2 := F2.chg hc5 (dj1 D3)
 replace hB := hB.inS hc5 (inLow (low1 G3))
 replace hZ := Nat.le_trans hZ hc5.size
 replace F5 : Cl w5 b3 29 [.int .i64 (p0_0), .int .i64 (p0_1)] := F5
 clear F4
 refine wS_end (by rfl) ?_
 refine eX_then ?_
 refine cW_seq ?_
 refine cW_region ?_
 refine wS_loadA (d := 10) (T := 29) (ad := ⟨b3, 0, none⟩) (vs := [.int .i64 (p0_0), .int .i64 (p0_1)]) (by kernel_rfl) vt29 (fun i u hu => box_cells F5 0 hu (by rfl)) ?_
 refine wS_store (T := 29) (g := b2) (o := 0) (ad := ⟨b2, 0, none⟩) (v := .agg #[.int .i64 (p0_0), .int .i64 (p0_1)]) (vs := [.int .i64 (p0_0), .int .i64 (p0_1)]) (by kernel_rfl) (by rfl) sz29 (by rfl) (by rfl) F2 (by simp only [List.length_cons, List.length_nil]; omega) ?_
 intro w6 F6 hc6
 replace F1 := F1.chg hc6 (dj1 D1)
 replace F5 := F5.chg hc6 (dj1 (D3).symm)
 replace hB := hB.inS hc6 (inLow (low1 G2))
 replace hZ := Nat.le_trans hZ hc6.size
 replace F6 : Cl w6 b2 29 [.int .i64 (p0_0), .int .i64 (p0_1)] := F6
 clear F2
 refine wS_end (by rfl) ?_
 refine eX_then ?_
 refine cW_ret ?_
 have hq : (some ((p0_0, p0_1)) : Option ((Int × Int))) = some _ := hm
 replace hq := someE hq
 subst hq
 refine eX_ret (vs := [.agg #[.int .i64 (p0_0), .int .i64 (p0_1)]]) [.cell 2 29] (by rfl) ⟨⟨⟨b2, 0, none⟩, by kernel_rfl, run_loadVarA (vs := [.int .i64 (p0_0), .int .i64 (p0_1)]) vt29 (fun i u hu => by exact box_cells F6 0 hu (by rfl))⟩, trivial⟩ ?_
 exact ⟨rfl, hB⟩

set_option maxRecDepth 100000 in
/-- laws.eqInt64S -/
theorem c_laws_eqInt64S {w0 : World} {l0 : List (Int)} {A0 : Option Addr} {cap0 : Nat} {fp0 : List Nat} {l1 : List (Int)} {A1 : Option Addr} {cap1 : Nat} {fp1 : List Nat} {r : (Bool)} (hm : m_laws_eqInt64S l0 l1 = some r) (F0 : Sl 1 encI w0 fp0 A0 l0) (F1 : Sl 1 encI w0 fp1 A1 l1) :
  Calls Try.prog 64 #[.slice A0 (l0).length cap0, .slice A1 (l1).length cap1] w0 fun e w' => e = .returned (.bool (r)) ∧ Chg [] w0 w' := by
 have L0 := F0.low
 have L1 := F1.low
 have hB : Chg [] w0 w0 := Chg.refl _ _
 have hZ := Nat.le_refl w0.heap.size
 unfold m_laws_eqInt64S at hm
 refine enterE (N := 26) Try.func64 (by rfl) Try.ntmps64 (by simp) [(0, .slice A0 (l0).length cap0), (1, .slice A1 (l1).length cap1)] (by rfl) (by kernel_rfl) (fun a => ?_)
 refine cW_seq ?_
 refine cW_region ?_
 refine wS_pure 1 [(4, .bool (false))] (by kernel_rfl) ?_
 refine wS_end (by rfl) ?_
 refine eX_then ?_
 refine cW_seq ?_
 refine cW_seq ?_
 refine cW_region ?_
 refine wS_pure 5 [(10, .bool ((((l0).length : Int)) != (((l1).length : Int)))), (9, .int .i64 (((l1).length : Int))), (8, .slice A1 (l1).length cap1), (7, .int .i64 (((l0).length : Int))), (6, .slice A0 (l0).length cap0)] (by kernel_rfl) ?_
 refine wS_end (by rfl) ?_
 refine eX_then ?_
 refine cW_cond (t := (((l0).length : Int)) != (((l1).length : Int))) (by kernel_rfl) (fun hb1 => ?_) (fun hb1 => ?_)
 ·have hm := condT hb1 hm
  refine cW_seq ?_
  refine cW_region ?_
  refine wS_pure 1 [(4, .bool (false))] (by kernel_rfl) ?_
  refine wS_end (by rfl) ?_
  refine eX_then ?_
  refine cW_ret ?_
  refine eX_then_ret ?_
  have hq : (some false : Option ((Bool))) = some _ := hm
  replace hq := someE hq
  subst hq
  refine eX_ret (vs := [.bool (false)]) [.tmp 4] (by rfl) ⟨by (show lkE _ _ _ = _); kernel_rfl, trivial⟩ ?_
  exact ⟨rfl, hB⟩
 ·have hm := condF hb1 hm
  refine cW_skip ?_
  refine eX_then ?_
  refine cW_seq ?_
  refine cW_seq ?_
  refine cW_region ?_
  refine wS_pure 1 [(5, .int .i64 (0))] (by kernel_rfl) ?_
  refine wS_end (by rfl) ?_
  refine eX_then ?_
  obtain ⟨r1, hr1, hm⟩ := bindE hm
  have hm1 := hm
  refine cW_cut (fun a' w' => Sum.inl (()) = r1 ∧ Fr 26 [] a' ∧ Chg [] w0 w' ∧ w0.heap.size ≤ w'.heap.size) ?_ ?_
  ·refine cW_block ?_
   refine cW_loop _ (fun (s1 : Int) a' w' => ∃ x1 : Int, x1 = s1 ∧ Fr 26 [(0, .slice A0 (l0).length cap0), (1, .slice A1 (l1).length cap1), (5, .int .i64 (x1))] a' ∧ Sl 1 encI w' fp0 A0 l0 ∧ Sl 1 encI w' fp1 A1 l1 ∧ Chg [] w0 w' ∧ w0.heap.size ≤ w'.heap.size) hr1 (fun hst => ⟨0, rfl, Fr.of hst (by kernel_rfl), F0, F1, hB, hZ⟩) ?_
   rintro _ c1 a' w1 ⟨x1, rfl, hF1, F2, F3, hB, hZ⟩ hx1
   refine Fr.goOn hF1 (by kernel_rfl) ?_
   have hm := hx1
   unfold m_laws_eqInt64S_s1 at hm
   refine cW_seq ?_
   refine cW_seq ?_
   refine cW_region ?_
   refine wS_pure 4 [(14, .bool (decide (x1 < (((l0).length : Int))))), (13, .int .i64 (((l0).length : Int))), (12, .slice A0 (l0).length cap0), (11, .int .i64 (x1))] (by kernel_rfl) ?_
   refine wS_end (by rfl) ?_
   refine eX_then ?_
   refine cW_cond (t := decide (x1 < (((l0).length : Int)))) (by kernel_rfl) (fun hb2 => ?_) (fun hb2 => ?_)
   ·have hm := condT hb2 hm
    refine cW_skip ?_
    refine eX_then ?_
    refine cW_seq ?_
    refine cW_block ?_
    refine cW_seq ?_
    refine cW_drawnTail [] 8 (by kernel_rfl) (by kernel_rfl) (fun w2 hc1 => ?_)
    replace F2 := F2.chg hc1 Dj.nil
    replace F3 := F3.chg hc1 Dj.nil
    replace hB := hB.inS hc1 inNil
    replace hZ := Nat.le_trans hZ hc1.size
    have hS := Chg.refl [] w2
    have Z1 := F2
    have Z2 := F3
    refine wH_take [0, 1] [1, 0] [(18, .int .i64 (x1)), (17, .slice A0 (l0).length cap0)] (by kernel_rfl) (qT (qT (qB (qT (qL (qB (qT (qT qZ)))))))) (by kernel_rfl) ?_
    obtain ⟨x2, hx2, hm⟩ := bindE hm
    refine wH_idx (i := 2) (d := 19) (T := 38) (A := A0) (n := (l0).length) (cap := cap0) (kd := .i64) (m := x1) (by kernel_rfl) (qT (qT (qB (qT (qL (qB (qT (qT qZ)))))))) (by kernel_rfl) (by kernel_rfl) sl38 (F2.is hx2) ?_
    refine wH_load1 (i := 3) (d := 20) (T := 2) (ad := (elA A0 1 (x1) 0)) (v := .int .i64 (x2)) (by kernel_rfl) (qT (qT (qB (qT (qL (qB (qT (qT qZ)))))))) (by kernel_rfl) (by kernel_rfl) vt2 (fun W hW => Sl.cell (Z1.chg hW Dj.nil) hx2 0 (by rfl)) ?_
    refine wH_take [4, 5] [5, 4, 3, 2, 1, 0] [(22, .int .i64 (x1)), (21, .slice A1 (l1).length cap1)] (by kernel_rfl) (qT (qT (qB (qT (qL (qB (qT (qT qZ)))))))) (by kernel_rfl) ?_
    obtain ⟨x3, hx3, hm⟩ := bindE hm
    refine wH_idx (i := 6) (d := 23) (T := 38) (A := A1) (n := (l1).length) (cap := cap1) (kd := .i64) (m := x1) (by kernel_rfl) (qT (qT (qB (qT (qL (qB (qT (qT qZ)))))))) (by kernel_rfl) (by kernel_rfl) sl38 (F3.is hx3) ?_
    refine wH_load1 (i := 7) (d := 24) (T := 2) (ad := (elA A1 1 (x1) 0)) (v := .int .i64 (x3)) (by kernel_rfl) (qT (qT (qB (qT (qL (qB (qT (qT qZ)))))))) (by kernel_rfl) (by kernel_rfl) vt2 (fun W hW => Sl.cell (Z2.chg hW Dj.nil) hx3 0 (by rfl)) ?_
    refine wH_done (by kernel_rfl) ?_
    refine eX_tail ?_
    refine wS_pure 1 [(25, .bool (x2 != x3))] (by kernel_rfl) ?_
    refine wS_end (by rfl) ?_
    refine eX_then ?_
    refine cW_cond (t := x2 != x3) (by kernel_rfl) (fun hb3 => ?_) (fun hb3 => ?_)
    ·have hm := condT hb3 hm
     refine cW_seq ?_
     refine cW_region ?_
     refine wS_pure 1 [(4, .bool (false))] (by kernel_rfl) ?_
     refine wS_end (by rfl) ?_
     refine eX_then ?_
     refine cW_ret ?_
     refine eX_block_ret ?_
     refine eX_then_ret ?_
     have hq : (some (Ctl.out (Sum.inr false)) : Option (Ctl (Int) (Sum (Unit) ((Bool))))) = some _ := hm
     replace hq := someE hq
     subst hq
     refine eX_outR hx1 (fun hr => ?_)
     subst hr
     refine eX_block_ret ?_
     refine eX_then_ret ?_
     refine eX_then_ret ?_
     have hq : (some false : Option ((Bool))) = some _ := hm1
     replace hq := someE hq
     subst hq
     refine eX_ret (vs := [.bool (false)]) [.tmp 4] (by rfl) ⟨by (show lkE _ _ _ = _); kernel_rfl, trivial⟩ ?_
     exact ⟨rfl, hB⟩
    ·have hm := condF hb3 hm
     refine cW_skip ?_
     refine eX_block ?_
     refine eX_then ?_
     refine cW_region ?_
     refine wS_pure 3 [(5, .int .i64 (wr (x1 + 1))), (16, .int .i64 (wr (x1 + 1))), (15, .int .i64 (x1))] (by kernel_rfl) ?_
     refine wS_end (by rfl) ?_
     have hq : (some (Ctl.next (wr (x1 + 1))) : Option (Ctl (Int) (Sum (Unit) ((Bool))))) = some _ := hm
     replace hq := someE hq
     subst hq
     exact eX_next hx1 (fun hst => ⟨wr (x1 + 1), rfl, Fr.of hst (by kernel_rfl), F2, F3, hB, hZ⟩)
   ·have hm := condF hb2 hm
    refine cW_exit ?_
    refine eX_then_exit ?_
    have hq : (some (Ctl.out (Sum.inl (()))) : Option (Ctl (Int) (Sum (Unit) ((Bool))))) = some _ := hm
    replace hq := someE hq
    subst hq
    refine eX_outX hx1 (fun hr2 => ?_)
    replace hr2 := hr2.symm
    subst hr2
    refine eX_block_hit ?_
    exact eX_J (fun hst => ⟨rfl, Fr.of hst (by kernel_rfl), hB, hZ⟩)
  ·rintro a' w3 ⟨hJ, hF2, hB, hZ⟩
   subst hJ
   refine Fr.goX hF2 (by kernel_rfl) ?_
   refine eX_then ?_
   refine cW_seq ?_
   refine cW_region ?_
   refine wS_pure 1 [(4, .bool (true))] (by kernel_rfl) ?_
   refine wS_end (by rfl) ?_
   refine eX_then ?_
   refine cW_ret ?_
   have hq : (some true : Option ((Bool))) = some _ := hm
   replace hq := someE hq
   subst hq
   refine eX_ret (vs := [.bool (true)]) [.tmp 4] (by rfl) ⟨by (show lkE _ _ _ = _); kernel_rfl, trivial⟩ ?_
   exact ⟨rfl, hB⟩

set_option maxRecDepth 100000 in
/-- laws.eqInt64SS -/
theorem c_laws_eqInt64SS {w0 : World} {l0 : List (List (Int))} {A0 : Option Addr} {cap0 : Nat} {fp0 : List Nat} {l1 : List (List (Int))} {A1 : Option Addr} {cap1 : Nat} {fp1 : List Nat} {r : (Bool)} (hm : m_laws_eqInt64SS l0 l1 = some r) (F0 : SlR 1 encI w0 fp0 A0 l0) (F1 : SlR 1 encI w0 fp1 A1 l1) :
  Calls Try.prog 41 #[.slice A0 (l0).length cap0, .slice A1 (l1).length cap1] w0 fun e w' => e = .returned (.bool (r)) ∧ Chg [] w0 w' := by
 have L0 := F0.low
 have L1 := F1.low
 have hB : Chg [] w0 w0 := Chg.refl _ _
 have hZ := Nat.le_refl w0.heap.size
 unfold m_laws_eqInt64SS at hm
 refine enterE (N := 27) Try.func41 (by rfl) Try.ntmps41 (by simp) [(0, .slice A0 (l0).length cap0), (1, .slice A1 (l1).length cap1)] (by rfl) (by kernel_rfl) (fun a => ?_)
 refine cW_seq ?_
 refine cW_region ?_
 refine wS_pure 1 [(4, .bool (false))] (by kernel_rfl) ?_
 refine wS_end (by rfl) ?_
 refine eX_then ?_
 refine cW_seq ?_
 refine cW_seq ?_
 refine cW_region ?_
 refine wS_pure 5 [(10, .bool ((((l0).length : Int)) != (((l1).length : Int)))), (9, .int .i64 (((l1).length : Int))), (8, .slice A1 (l1).length cap1), (7, .int .i64 (((l0).length : Int))), (6, .slice A0 (l0).length cap0)] (by kernel_rfl) ?_
 refine wS_end (by rfl) ?_
 refine eX_then ?_
 refine cW_cond (t := (((l0).length : Int)) != (((l1).length : Int))) (by kernel_rfl) (fun hb1 => ?_) (fun hb1 => ?_)
 ·have hm := condT hb1 hm
  refine cW_seq ?_
  refine cW_region ?_
  refine wS_pure 1 [(4, .bool (false))] (by kernel_rfl) ?_
  refine wS_end (by rfl) ?_
  refine eX_then ?_
  refine cW_ret ?_
  refine eX_then_ret ?_
  have hq : (some false : Option ((Bool))) = some _ := hm
  replace hq := someE hq
  subst hq
  refine eX_ret (vs := [.bool (false)]) [.tmp 4] (by rfl) ⟨by (show lkE _ _ _ = _); kernel_rfl, trivial⟩ ?_
  exact ⟨rfl, hB⟩
 ·have hm := condF hb1 hm
  refine cW_skip ?_
  refine eX_then ?_
  refine cW_seq ?_
  refine cW_seq ?_
  refine cW_region ?_
  refine wS_pure 1 [(5, .int .i64 (0))] (by kernel_rfl) ?_
  refine wS_end (by rfl) ?_
  refine eX_then ?_
  obtain ⟨r1, hr1, hm⟩ := bindE hm
  have hm1 := hm
  refine cW_cut (fun a' w' => Sum.inl (()) = r1 ∧ Fr 27 [] a' ∧ Chg [] w0 w' ∧ w0.heap.size ≤ w'.heap.size) ?_ ?_
  ·refine cW_block ?_
   refine cW_loop _ (fun (s1 : Int) a' w' => ∃ x1 : Int, x1 = s1 ∧ Fr 27 [(0, .slice A0 (l0).length cap0), (1, .slice A1 (l1).length cap1), (5, .int .i64 (x1))] a' ∧ SlR 1 encI w' fp0 A0 l0 ∧ SlR 1 encI w' fp1 A1 l1 ∧ Chg [] w0 w' ∧ w0.heap.size ≤ w'.heap.size) hr1 (fun hst => ⟨0, rfl, Fr.of hst (by kernel_rfl), F0, F1, hB, hZ⟩) ?_
   rintro _ c1 a' w1 ⟨x1, rfl, hF1, F2, F3, hB, hZ⟩ hx1
   refine Fr.goOn hF1 (by kernel_rfl) ?_
   have hm := hx1
   unfold m_laws_eqInt64SS_s1 at hm
   refine cW_seq ?_
   refine cW_seq ?_
   refine cW_region ?_
   refine wS_pure 4 [(14, .bool (decide (x1 < (((l0).length : Int))))), (13, .int .i64 (((l0).length : Int))), (12, .slice A0 (l0).length cap0), (11, .int .i64 (x1))] (by kernel_rfl) ?_
   refine wS_end (by rfl) ?_
   refine eX_then ?_
   refine cW_cond (t := decide (x1 < (((l0).length : Int)))) (by kernel_rfl) (fun hb2 => ?_) (fun hb2 => ?_)
   ·have hm := condT hb2 hm
    refine cW_skip ?_
    refine eX_then ?_
    refine cW_seq ?_
    refine cW_block ?_
    refine cW_seq ?_
    refine cW_drawnTail [] 8 (by kernel_rfl) (by kernel_rfl) (fun w2 hc1 => ?_)
    replace F2 := F2.chg hc1 Dj.nil
    replace F3 := F3.chg hc1 Dj.nil
    replace hB := hB.inS hc1 inNil
    replace hZ := Nat.le_trans hZ hc1.size
    have hS := Chg.refl [] w2
    have Z1 := F2
    have Z2 := F3
    refine wH_take [0, 1] [1, 0] [(18, .int .i64 (x1)), (17, .slice A0 (l0).length cap0)] (by kernel_rfl) (qT (qT (qB (qT (qL (qB (qT (qT qZ)))))))) (by kernel_rfl) ?_
    obtain ⟨x2, hx2, hm⟩ := bindE hm
    refine wH_idx (i := 2) (d := 19) (T := 24) (A := A0) (n := (l0).length) (cap := cap0) (kd := .i64) (m := x1) (by kernel_rfl) (qT (qT (qB (qT (qL (qB (qT (qT qZ)))))))) (by kernel_rfl) (by kernel_rfl) sl24 (F2.is hx2) ?_
    obtain ⟨A2, cap2, hc2, F4, K1⟩ := SlR.row Z1 hx2
    refine wH_load1 (i := 3) (d := 20) (T := 38) (ad := (elA A0 1 (x1) 0)) (v := .slice A2 (x2).length cap2) (by kernel_rfl) (qT (qT (qB (qT (qL (qB (qT (qT qZ)))))))) (by kernel_rfl) (by kernel_rfl) vt38 (fun W hW => hW.keep hc2) ?_
    refine wH_take [4, 5] [5, 4, 3, 2, 1, 0] [(22, .int .i64 (x1)), (21, .slice A1 (l1).length cap1)] (by kernel_rfl) (qT (qT (qB (qT (qL (qB (qT (qT qZ)))))))) (by kernel_rfl) ?_
    obtain ⟨x3, hx3, hm⟩ := bindE hm
    refine wH_idx (i := 6) (d := 23) (T := 24) (A := A1) (n := (l1).length) (cap := cap1) (kd := .i64) (m := x1) (by kernel_rfl) (qT (qT (qB (qT (qL (qB (qT (qT qZ)))))))) (by kernel_rfl) (by kernel_rfl) sl24 (F3.is hx3) ?_
    obtain ⟨A3, cap3, hc3, F5, K2⟩ := SlR.row Z2 hx3
    refine wH_load1 (i := 7) (d := 24) (T := 38) (ad := (elA A1 1 (x1) 0)) (v := .slice A3 (x3).length cap3) (by kernel_rfl) (qT (qT (qB (qT (qL (qB (qT (qT qZ)))))))) (by kernel_rfl) (by kernel_rfl) vt38 (fun W hW => hW.keep hc3) ?_
    refine wH_done (by kernel_rfl) ?_
    refine eX_tail ?_
    obtain ⟨y1, hy1, hm⟩ := bindE hm
    refine wS_calls (d := 25) (f := 64) (vs := [.slice A2 (x2).length cap2, .slice A3 (x3).length cap3]) (by kernel_rfl) ent64 (c_laws_eqInt64S hy1 F4 F5) ?_
    rintro _ w3 ⟨rfl, hc4⟩
    replace F2 := F2.chg hc4 Dj.nil
    replace F3 := F3.chg hc4 Dj.nil
    replace F4 := F4.chg hc4 Dj.nil
    replace F5 := F5.chg hc4 Dj.nil
    replace hB := hB.inS hc4 inNil
    replace hZ := Nat.le_trans hZ hc4.size
    refine ⟨.bool (y1), rfl, ?_⟩
    refine wS_pure 1 [(26, .bool (!y1))] (by kernel_rfl) ?_
    refine wS_end (by rfl) ?_
    refine eX_then ?_
    refine cW_cond (t := !y1) (by kernel_rfl) (fun hb3 => ?_) (fun hb3 => ?_)
    ·have hm := condT hb3 hm
     refine cW_seq ?_
     refine cW_region ?_
     refine wS_pure 1 [(4, .bool (false))] (by kernel_rfl) ?_
     refine wS_end (by rfl) ?_
     refine eX_then ?_
     refine cW_ret ?_
     refine eX_block_ret ?_
     refine eX_then_ret ?_
     have hq : (some (Ctl.out (Sum.inr false)) : Option (Ctl (Int) (Sum (Unit) ((Bool))))) = some _ := hm
     replace hq := someE hq
     subst hq
     refine eX_outR hx1 (fun hr => ?_)
     subst hr
     refine eX_block_ret ?_
     refine eX_then_ret ?_
     refine eX_then_ret ?_
     have hq : (some false : Option ((Bool))) = some _ := hm1
     replace hq := someE hq
     subst hq
     refine eX_ret (vs := [.bool (false)]) [.tmp 4] (by rfl) ⟨by (show lkE _ _ _ = _); kernel_rfl, trivial⟩ ?_
     exact ⟨rfl, hB⟩
    ·have hm := condF hb3 hm
     refine cW_skip ?_
     refine eX_block ?_
     refine eX_then ?_
     refine cW_region ?_
     refine wS_pure 3 [(5, .int .i64 (wr (x1 + 1))), (16, .int .i64 (wr (x1 + 1))), (15, .int .i64 (x1))] (by kernel_rfl) ?_
     refine wS_end (by rfl) ?_
     have hq : (some (Ctl.next (wr (x1 + 1))) : Option (Ctl (Int) (Sum (Unit) ((Bool))))) = some _ := hm
     replace hq := someE hq
     subst hq
     exact eX_next hx1 (fun hst => ⟨wr (x1 + 1), rfl, Fr.of hst (by kernel_rfl), F2, F3, hB, hZ⟩)
   ·have hm := condF hb2 hm
    refine cW_exit ?_
    refine eX_then_exit ?_
    have hq : (some (Ctl.out (Sum.inl (()))) : Option (Ctl (Int) (Sum (Unit) ((Bool))))) = some _ := hm
    replace hq := someE hq
    subst hq
    refine eX_outX hx1 (fun hr2 => ?_)
    replace hr2 := hr2.symm
    subst hr2
    refine eX_block_hit ?_
    exact eX_J (fun hst => ⟨rfl, Fr.of hst (by kernel_rfl), hB, hZ⟩)
  ·rintro a' w4 ⟨hJ, hF2, hB, hZ⟩
   subst hJ
   refine Fr.goX hF2 (by kernel_rfl) ?_
   refine eX_then ?_
   refine cW_seq ?_
   refine cW_region ?_
   refine wS_pure 1 [(4, .bool (true))] (by kernel_rfl) ?_
   refine wS_end (by rfl) ?_
   refine eX_then ?_
   refine cW_ret ?_
   have hq : (some true : Option ((Bool))) = some _ := hm
   replace hq := someE hq
   subst hq
   refine eX_ret (vs := [.bool (true)]) [.tmp 4] (by rfl) ⟨by (show lkE _ _ _ = _); kernel_rfl, trivial⟩ ?_
   exact ⟨rfl, hB⟩

set_option maxRecDepth 100000 in
/-- laws.eqMaze -/
theorem c_laws_eqMaze {w0 : World} {l0_0 : List (List (Int))} {A0_0 : Option Addr} {cap0_0 : Nat} {fp0_0 : List Nat} {l1_0 : List (List (Int))} {A1_0 : Option Addr} {cap1_0 : Nat} {fp1_0 : List Nat} {r : (Bool)} (hm : m_laws_eqMaze l0_0 l1_0 = some r) (F0_0 : SlR 1 encI w0 fp0_0 A0_0 l0_0) (F1_0 : SlR 1 encI w0 fp1_0 A1_0 l1_0) :
  Calls Try.prog 18 #[.agg #[.slice A0_0 (l0_0).length cap0_0], .agg #[.slice A1_0 (l1_0).length cap1_0]] w0 fun e w' => e = .returned (.bool (r)) ∧ Chg [] w0 w' := by
 have L0_0 := F0_0.low
 have L1_0 := F1_0.low
 have hB : Chg [] w0 w0 := Chg.refl _ _
 have hZ := Nat.le_refl w0.heap.size
 unfold m_laws_eqMaze at hm
 refine enterE (N := 11) Try.func18 (by rfl) Try.ntmps18 (by simp) [(0, .agg #[.slice A0_0 (l0_0).length cap0_0]), (1, .agg #[.slice A1_0 (l1_0).length cap1_0])] (by rfl) (by kernel_rfl) (fun a => ?_)
 refine cW_seq ?_
 refine cW_region ?_
 refine wS_box (d := 2) (T := 26) (x := .agg #[.slice A0_0 (l0_0).length cap0_0]) (by kernel_rfl) ?_
 intro b1 w1 G1 F1 hc1
 replace F1 : Cl w1 b1 26 [.slice A0_0 (l0_0).length cap0_0] := F1
 replace F0_0 := F0_0.chg hc1 Dj.nil
 replace F1_0 := F1_0.chg hc1 Dj.nil
 replace hB := hB.inS hc1 inNil
 replace G1 := Nat.le_trans hZ G1
 replace hZ := Nat.le_trans hZ hc1.size
 refine wS_box (d := 3) (T := 26) (x := .agg #[.slice A1_0 (l1_0).length cap1_0]) (by kernel_rfl) ?_
 intro b2 w2 G2 F2 hc2
 replace F2 : Cl w2 b2 26 [.slice A1_0 (l1_0).length cap1_0] := F2
 have D1 : Dj [b1] [b2] := Dj.of (lt1 F1.lt) (low1 G2)
 replace F0_0 := F0_0.chg hc2 Dj.nil
 replace F1_0 := F1_0.chg hc2 Dj.nil
 replace F1 := F1.chg hc2 notNil
 replace hB := hB.inS hc2 inNil
 replace G2 := Nat.le_trans hZ G2
 replace hZ := Nat.le_trans hZ hc2.size
 refine wS_pure 1 [(4, .bool (false))] (by kernel_rfl) ?_
 refine wS_end (by rfl) ?_
 refine eX_then ?_
 refine cW_seq ?_
 refine cW_seq ?_
 refine cW_region ?_
 refine wS_pure 1 [(5, .pointer (some ⟨b1, 0, none⟩))] (by kernel_rfl) ?_
 refine wS_load1 (d := 6) (T := 24) (ad := ⟨b1, 0, none⟩) (v := .slice A0_0 (l0_0).length cap0_0) (by kernel_rfl) vt24 ((F1).cell 0) ?_
 refine wS_pure 1 [(7, .pointer (some ⟨b2, 0, none⟩))] (by kernel_rfl) ?_
 refine wS_load1 (d := 8) (T := 24) (ad := ⟨b2, 0, none⟩) (v := .slice A1_0 (l1_0).length cap1_0) (by kernel_rfl) vt24 ((F2).cell 0) ?_
 obtain ⟨y1, hy1, hm⟩ := bindE hm
 refine wS_calls (d := 9) (f := 41) (vs := [.slice A0_0 (l0_0).length cap0_0, .slice A1_0 (l1_0).length cap1_0]) (by kernel_rfl) ent41 (c_laws_eqInt64SS hy1 F0_0 F1_0) ?_
 rintro _ w3 ⟨rfl, hc3⟩
 replace F0_0 := F0_0.chg hc3 Dj.nil
 replace F1_0 := F1_0.chg hc3 Dj.nil
 replace F1 := F1.chg hc3 notNil
 replace F2 := F2.chg hc3 notNil
 replace hB := hB.inS hc3 inNil
 replace hZ := Nat.le_trans hZ hc3.size
 refine ⟨.bool (y1), rfl, ?_⟩
 refine wS_pure 1 [(10, .bool (!y1))] (by kernel_rfl) ?_
 refine wS_end (by rfl) ?_
 refine eX_then ?_
 refine cW_cond (t := !y1) (by kernel_rfl) (fun hb1 => ?_) (fun hb1 => ?_)
 ·have hm := condT hb1 hm
  refine cW_seq ?_
  refine cW_region ?_
  refine wS_pure 1 [(4, .bool (false))] (by kernel_rfl) ?_
  refine wS_end (by rfl) ?_
  refine eX_then ?_
  refine cW_ret ?_
  refine eX_then_ret ?_
  have hq : (some false : Option ((Bool))) = some _ := hm
  replace hq := someE hq
  subst hq
  refine eX_ret (vs := [.bool (false)]) [.tmp 4] (by rfl) ⟨by (show lkE _ _ _ = _); kernel_rfl, trivial⟩ ?_
  exact ⟨rfl, hB⟩
 ·have hm := condF hb1 hm
  refine cW_skip ?_
  refine eX_then ?_
  refine cW_seq ?_
  refine cW_region ?_
  refine wS_pure 1 [(4, .bool (true))] (by kernel_rfl) ?_
  refine wS_end (by rfl) ?_
  refine eX_then ?_
  refine cW_ret ?_
  have hq : (some true : Option ((Bool))) = some _ := hm
  replace hq := someE hq
  subst hq
  refine eX_ret (vs := [.bool (true)]) [.tmp 4] (by rfl) ⟨by (show lkE _ _ _ = _); kernel_rfl, trivial⟩ ?_
  exact ⟨rfl, hB⟩

set_option maxRecDepth 100000 in
/-- laws.FnExactMostApart -/
theorem c_laws_FnExactMostApart {w0 : World} {l0_0 : List (List (Int))} {A0_0 : Option Addr} {cap0_0 : Nat} {fp0_0 : List Nat} {p1_0 : Int} {p1_1 : Int} {p2_0 : Int} {p2_1 : Int} {r : (Bool)} (hm : m_laws_FnExactMostApart l0_0 p1_0 p1_1 p2_0 p2_1 = some r) (F0_0 : SlR 1 encI w0 fp0_0 A0_0 l0_0) :
  Calls Try.prog 4 #[.agg #[.slice A0_0 (l0_0).length cap0_0], .agg #[.int .i64 (p1_0), .int .i64 (p1_1)], .agg #[.int .i64 (p2_0), .int .i64 (p2_1)]] w0 fun e w' => e = .returned (.bool (r)) ∧ Chg [] w0 w' := by
 have L0_0 := F0_0.low
 have hB : Chg [] w0 w0 := Chg.refl _ _
 have hZ := Nat.le_refl w0.heap.size
 unfold m_laws_FnExactMostApart at hm
 refine enterE (N := 52) Try.func4 (by rfl) Try.ntmps4 (by simp) [(0, .agg #[.slice A0_0 (l0_0).length cap0_0]), (1, .agg #[.int .i64 (p1_0), .int .i64 (p1_1)]), (2, .agg #[.int .i64 (p2_0), .int .i64 (p2_1)])] (by rfl) (by kernel_rfl) (fun a => ?_)
 refine cW_seq ?_
 refine cW_region ?_
 refine wS_box (d := 3) (T := 41) (x := .agg #[.slice A0_0 (l0_0).length cap0_0]) (by kernel_rfl) ?_
 intro b1 w1 G1 F1 hc1
 replace F1 : Cl w1 b1 41 [.slice A0_0 (l0_0).length cap0_0] := F1
 replace F0_0 := F0_0.chg hc1 Dj.nil
 replace hB := hB.inS hc1 inNil
 replace G1 := Nat.le_trans hZ G1
 replace hZ := Nat.le_trans hZ hc1.size
 refine wS_box (d := 4) (T := 42) (x := .agg #[.int .i64 (p1_0), .int .i64 (p1_1)]) (by kernel_rfl) ?_
 intro b2 w2 G2 F2 hc2
 replace F2 : Cl w2 b2 42 [.int .i64 (p1_0), .int .i64 (p1_1)] := F2
 have D1 : Dj [b1] [b2] := Dj.of (lt1 F1.lt) (low1 G2)
 replace F0_0 := F0_0.chg hc2 Dj.nil
 replace F1 := F1.chg hc2 notNil
 replace hB := hB.inS hc2 inNil
 replace G2 := Nat.le_trans hZ G2
 replace hZ := Nat.le_trans hZ hc2.size
 refine wS_box (d := 5) (T := 42) (x := .agg #[.int .i64 (p2_0), .int .i64 (p2_1)]) (by kernel_rfl) ?_
 intro b3 w3 G3 F3 hc3
 replace F3 : Cl w3 b3 42 [.int .i64 (p2_0), .int .i64 (p2_1)] := F3
 have D2 : Dj [b1] [b3] := Dj.of (lt1 F1.lt) (low1 G3)
 have D3 : Dj [b2] [b3] := Dj.of (lt1 F2.lt) (low1 G3)
 replace F0_0 := F0_0.chg hc3 Dj.nil
 replace F1 := F1.chg hc3 notNil
 replace F2 := F2.chg hc3 notNil
 replace hB := hB.inS hc3 inNil
 replace G3 := Nat.le_trans hZ G3
 replace hZ := Nat.le_trans hZ hc3.size
 refine wS_pure 1 [(6, .bool (false))] (by kernel_rfl) ?_
 refine wS_end (by rfl) ?_
 refine eX_then ?_
 refine cW_seq ?_
 refine cW_region ?_
 refine wS_pure 1 [(7, .int .i64 (1048576))] (by kernel_rfl) ?_
 refine wS_end (by rfl) ?_
 refine eX_then ?_
 refine cW_seq ?_
 refine cW_region ?_
 refine wS_loadA (d := 13) (T := 41) (ad := ⟨b1, 0, none⟩) (vs := [.slice A0_0 (l0_0).length cap0_0]) (by kernel_rfl) vt41 (fun i u hu => box_cells F1 0 hu (by rfl)) ?_
 refine wS_pure 1 [(14, .int .i64 (1048576))] (by kernel_rfl) ?_
 obtain ⟨y1, hy1, hm⟩ := bindE hm
 refine wS_calls (d := 15) (f := 14) (vs := [.agg #[.slice A0_0 (l0_0).length cap0_0], .int .i64 (1048576)]) (by kernel_rfl) ent14 (c_laws_szMaze hy1 F0_0) ?_
 rintro _ w4 ⟨rfl, hc4⟩
 replace F0_0 := F0_0.chg hc4 Dj.nil
 replace F1 := F1.chg hc4 notNil
 replace F2 := F2.chg hc4 notNil
 replace F3 := F3.chg hc4 notNil
 replace hB := hB.inS hc4 inNil
 replace hZ := Nat.le_trans hZ hc4.size
 refine ⟨.int .i64 (y1), rfl, ?_⟩
 refine wS_pure 1 [(7, .int .i64 (y1))] (by kernel_rfl) ?_
 refine wS_end (by rfl) ?_
 refine eX_then ?_
 refine cW_seq ?_
 refine cW_seq ?_
 refine cW_region ?_
 refine wS_pure 2 [(17, .bool (decide (y1 < 0))), (16, .int .i64 (y1))] (by kernel_rfl) ?_
 refine wS_end (by rfl) ?_
 refine eX_then ?_
 refine cW_cond (t := decide (y1 < 0)) (by kernel_rfl) (fun hb1 => ?_) (fun hb1 => ?_)
 ·have hm := condT hb1 hm
  refine cW_seq ?_
  refine cW_region ?_
  refine wS_pure 1 [(6, .bool (true))] (by kernel_rfl) ?_
  refine wS_end (by rfl) ?_
  refine eX_then ?_
  refine cW_ret ?_
  refine eX_then_ret ?_
  have hq : (some true : Option ((Bool))) = some _ := hm
  replace hq := someE hq
  subst hq
  refine eX_ret (vs := [.bool (true)]) [.tmp 6] (by rfl) ⟨by (show lkE _ _ _ = _); kernel_rfl, trivial⟩ ?_
  exact ⟨rfl, hB⟩
 ·have hm := condF hb1 hm
  refine cW_skip ?_
  refine eX_then ?_
  refine cW_seq ?_
  refine cW_drawnTail [] 11 (by kernel_rfl) (by kernel_rfl) (fun w5 hc5 => ?_)
  replace F0_0 := F0_0.chg hc5 Dj.nil
  replace F1 := F1.chg hc5 notNil
  replace F2 := F2.chg hc5 notNil
  replace F3 := F3.chg hc5 notNil
  replace hB := hB.inS hc5 inNil
  replace hZ := Nat.le_trans hZ hc5.size
  have hS := Chg.refl [] w5
  have Z1 := F0_0
  have Z2 := F1
  have Z3 := F2
  have Z4 := F3
  refine wH_loadA (i := 0) (d := 19) (T := 41) (ad := ⟨b1, 0, none⟩) (vs := [.slice A0_0 (l0_0).length cap0_0]) (by kernel_rfl) (qT (qT qZ)) (by kernel_rfl) (by kernel_rfl) vt41 (fun W hW i u hu => box_cells (Z2.chg hW notNil) 0 hu (by rfl)) ?_
  refine wH_loadA (i := 2) (d := 21) (T := 42) (ad := ⟨b2, 0, none⟩) (vs := [.int .i64 (p1_0), .int .i64 (p1_1)]) (by kernel_rfl) (qT (qT qZ)) (by kernel_rfl) (by kernel_rfl) vt42 (fun W hW i u hu => box_cells (Z3.chg hW notNil) 0 hu (by rfl)) ?_
  refine wH_loadA (i := 4) (d := 23) (T := 42) (ad := ⟨b3, 0, none⟩) (vs := [.int .i64 (p2_0), .int .i64 (p2_1)]) (by kernel_rfl) (qT (qT qZ)) (by kernel_rfl) (by kernel_rfl) vt42 (fun W hW i u hu => box_cells (Z4.chg hW notNil) 0 hu (by rfl)) ?_
  refine wH_all [1] (by rfl) (by kernel_rfl) (by simp) ⟨⟨by kernel_rfl, ?_⟩, trivial⟩
  obtain ⟨y2, hy2, hm⟩ := bindE hm
  refine wS_calls (d := 20) (f := 16) (vs := [.agg #[.slice A0_0 (l0_0).length cap0_0]]) (by kernel_rfl) ent16 (c_laws_toMaze hy2 F0_0) ?_
  rintro _ w6 ⟨A1, cap1, fp1, fr1, rfl, F4, G4, hc6⟩
  have D4 : Dj [b1] (fp1 ++ fr1) := Dj.of (lt1 F1.lt) G4
  have D5 : Dj [b2] (fp1 ++ fr1) := Dj.of (lt1 F2.lt) G4
  have D6 : Dj [b3] (fp1 ++ fr1) := Dj.of (lt1 F3.lt) G4
  replace F0_0 := F0_0.chg hc6 Dj.nil
  replace F1 := F1.chg hc6 notNil
  replace F2 := F2.chg hc6 notNil
  replace F3 := F3.chg hc6 notNil
  replace hB := hB.inS hc6 inNil
  have hSz := hS
  replace hS := hS.inS hc6 inNil
  replace G4 := low_le hZ G4
  replace hZ := Nat.le_trans hZ hc6.size
  refine ⟨.agg #[.slice A1 (y2).length cap1], rfl, ?_⟩
  refine wS_end (by kernel_rfl) ?_
  refine eX_KH hS ?_
  refine wH_all [3] (by rfl) (by kernel_rfl) (by simp) ⟨⟨by kernel_rfl, ?_⟩, trivial⟩
  obtain ⟨y3, hy3, hm⟩ := bindE hm
  refine wS_calls (d := 22) (f := 17) (vs := [.agg #[.int .i64 (p1_0), .int .i64 (p1_1)]]) (by kernel_rfl) ent17 (c_laws_toPoint hy3) ?_
  rintro _ w7 ⟨rfl, hc7⟩
  replace F0_0 := F0_0.chg hc7 Dj.nil
  replace F1 := F1.chg hc7 notNil
  replace F2 := F2.chg hc7 notNil
  replace F3 := F3.chg hc7 notNil
  replace F4 := F4.chg hc7 Dj.nil
  replace hB := hB.inS hc7 inNil
  have hSz := hS
  replace hS := hS.inS hc7 inNil
  replace hZ := Nat.le_trans hZ hc7.size
  refine ⟨.agg #[.int .i64 (y3.1), .int .i64 (y3.2)], rfl, ?_⟩
  refine wS_end (by kernel_rfl) ?_
  refine eX_KH hS ?_
  refine wH_all [5] (by rfl) (by kernel_rfl) (by simp) ⟨⟨by kernel_rfl, ?_⟩, trivial⟩
  obtain ⟨y4, hy4, hm⟩ := bindE hm
  refine wS_calls (d := 24) (f := 17) (vs := [.agg #[.int .i64 (p2_0), .int .i64 (p2_1)]]) (by kernel_rfl) ent17 (c_laws_toPoint hy4) ?_
  rintro _ w8 ⟨rfl, hc8⟩
  replace F0_0 := F0_0.chg hc8 Dj.nil
  replace F1 := F1.chg hc8 notNil
  replace F2 := F2.chg hc8 notNil
  replace F3 := F3.chg hc8 notNil
  replace F4 := F4.chg hc8 Dj.nil
  replace hB := hB.inS hc8 inNil
  have hSz := hS
  replace hS := hS.inS hc8 inNil
  replace hZ := Nat.le_trans hZ hc8.size
  refine ⟨.agg #[.int .i64 (y4.1), .int .i64 (y4.2)], rfl, ?_⟩
  refine wS_end (by kernel_rfl) ?_
  refine eX_KH hS ?_
  refine wH_all [6] (by rfl) (by kernel_rfl) (by simp) ⟨⟨by kernel_rfl, ?_⟩, trivial⟩
  obtain ⟨y5, hy5, hm⟩ := bindE hm
  refine wS_calls (d := 25) (f := 15) (vs := [.agg #[.slice A1 (y2).length cap1], .agg #[.int .i64 (y3.1), .int .i64 (y3.2)], .agg #[.int .i64 (y4.1), .int .i64 (y4.2)]]) (by kernel_rfl) ent15 (c_spec_MostApart hy5 (F4.slr encI_ok)) ?_
  rintro _ w9 ⟨rfl, hc9⟩
  replace F0_0 := F0_0.chg hc9 Dj.nil
  replace F1 := F1.chg hc9 notNil
  replace F2 := F2.chg hc9 notNil
  replace F3 := F3.chg hc9 notNil
  replace F4 := F4.chg hc9 Dj.nil
  replace hB := hB.inS hc9 inNil
  have hSz := hS
  replace hS := hS.inS hc9 inNil
  replace hZ := Nat.le_trans hZ hc9.size
  refine ⟨.tuple #[.int .i64 (y5.1), .bool (y5.2)], rfl, ?_⟩
  refine wS_end (by kernel_rfl) ?_
  refine eX_KH hS ?_
  refine wH_take [7, 8, 9, 10] [10, 9, 8, 7, 6, 5, 3, 1, 4, 2, 0] [(8, .int .i64 (y5.1)), (27, .bool (y5.2)), (26, .int .i64 (y5.1)), (18, .tuple #[.int .i64 (y5.1), .bool (y5.2)])] (by kernel_rfl) (qT (qT qZ)) (by kernel_rfl) ?_
  refine wH_done (by kernel_rfl) ?_
  refine eX_tail ?_
  refine wS_pure 1 [(9, .bool (y5.2))] (by kernel_rfl) ?_
  refine wS_end (by rfl) ?_
  refine eX_then ?_
  refine cW_prune [(3, .pointer (some ⟨b1, 0, none⟩)), (4, .pointer (some ⟨b2, 0, none⟩)), (5, .pointer (some ⟨b3, 0, none⟩)), (8, .int .i64 (y5.1)), (9, .bool (y5.2))] (by kernel_rfl) (by kernel_rfl) (fun a1 => ?_)
  refine cW_seq ?_
  refine cW_region ?_
  refine wS_loadA (d := 28) (T := 41) (ad := ⟨b1, 0, none⟩) (vs := [.slice A0_0 (l0_0).length cap0_0]) (by kernel_rfl) vt41 (fun i u hu => box_cells F1 0 hu (by rfl)) ?_
  obtain ⟨y6, hy6, hm⟩ := bindE hm
  refine wS_calls (d := 29) (f := 16) (vs := [.agg #[.slice A0_0 (l0_0).length cap0_0]]) (by kernel_rfl) ent16 (c_laws_toMaze hy6 F0_0) ?_
  rintro _ w10 ⟨A2, cap2, fp2, fr2, rfl, F5, G5, hc10⟩
  have D7 : Dj [b1] (fp2 ++ fr2) := Dj.of (lt1 F1.lt) G5
  have D8 : Dj [b2] (fp2 ++ fr2) := Dj.of (lt1 F2.lt) G5
  have D9 : Dj [b3] (fp2 ++ fr2) := Dj.of (lt1 F3.lt) G5
  have D10 : Dj (fp1 ++ fr1) (fp2 ++ fr2) := Dj.of F4.low G5
  replace F0_0 := F0_0.chg hc10 Dj.nil
  replace F1 := F1.chg hc10 notNil
  replace F2 := F2.chg hc10 notNil
  replace F3 := F3.chg hc10 notNil
  replace F4 := F4.chg hc10 Dj.nil
  replace hB := hB.inS hc10 inNil
  replace G5 := low_le hZ G5
  replace hZ := Nat.le_trans hZ hc10.size
  refine ⟨.agg #[.slice A2 (y6).length cap2], rfl, ?_⟩
  refine wS_alloc (d := 10) (T := 26) (z := .agg #[.slice none 0 0]) (by kernel_rfl) (by kernel_rfl) ?_
  intro b4 w11 G6 F6 hc11
  replace F6 : Cl w11 b4 26 [.slice none 0 0] := F6
  have D11 : Dj [b1] [b4] := Dj.of (lt1 F1.lt) (low1 G6)
  have D12 : Dj [b2] [b4] := Dj.of (lt1 F2.lt) (low1 G6)
  have D13 : Dj [b3] [b4] := Dj.of (lt1 F3.lt) (low1 G6)
  have D14 : Dj (fp1 ++ fr1) [b4] := Dj.of F4.low (low1 G6)
  have D15 : Dj (fp2 ++ fr2) [b4] := Dj.of F5.low (low1 G6)
  replace F0_0 := F0_0.chg hc11 Dj.nil
  replace F1 := F1.chg hc11 notNil
  replace F2 := F2.chg hc11 notNil
  replace F3 := F3.chg hc11 notNil
  replace F4 := F4.chg hc11 Dj.nil
  replace F5 := F5.chg hc11 Dj.nil
  replace hB := hB.inS hc11 inNil
  replace G6 := Nat.le_trans hZ G6
  replace hZ := Nat.le_trans hZ hc11.size
  refine wS_store (T := 26) (g := b4) (o := 0) (ad := ⟨b4, 0, none⟩) (v := .agg #[.slice A2 (y6).length cap2]) (vs := [.slice A2 (y6).length cap2]) (by kernel_rfl) (by rfl) sz26 (by rfl) (by rfl) F6 (by simp only [List.length_cons, List.length_nil]; omega) ?_
  intro w12 F7 hc12
  replace F0_0 := F0_0.chg hc12 (Dj.of L0_0 (low1 G6))
  replace F1 := F1.chg hc12 (dj1 D11)
  replace F2 := F2.chg hc12 (dj1 D12)
  replace F3 := F3.chg hc12 (dj1 D13)
  replace F4 := F4.chg hc12 D14
  replace F5 := F5.chg hc12 D15
  replace hB := hB.inS hc12 (inLow (low1 G6))
  replace hZ := Nat.le_trans hZ hc12.size
  replace F7 : Cl w12 b4 26 [.slice A2 (y6).length cap2] := F7
  clear F6
  refine wS_end (by rfl) ?_
  refine eX_then ?_
  refine cW_seq ?_
  refine cW_drawnTail [] 10 (by kernel_rfl) (by kernel_rfl) (fun w13 hc13 => ?_)
  replace F0_0 := F0_0.chg hc13 Dj.nil
  replace F1 := F1.chg hc13 notNil
  replace F2 := F2.chg hc13 notNil
  replace F3 := F3.chg hc13 notNil
  replace F4 := F4.chg hc13 Dj.nil
  replace F5 := F5.chg hc13 Dj.nil
  replace F7 := F7.chg hc13 notNil
  replace hB := hB.inS hc13 inNil
  replace hZ := Nat.le_trans hZ hc13.size
  have hS := Chg.refl [] w13
  have Z5 := F0_0
  have Z6 := F1
  have Z7 := F2
  have Z8 := F3
  have Z9 := F4
  have Z10 := F5
  have Z11 := F7
  refine wH_loadA (i := 0) (d := 31) (T := 26) (ad := ⟨b4, 0, none⟩) (vs := [.slice A2 (y6).length cap2]) (by kernel_rfl) (qT (qT qZ)) (by kernel_rfl) (by kernel_rfl) vt26 (fun W hW i u hu => box_cells (Z11.chg hW notNil) 0 hu (by rfl)) ?_
  refine wH_loadA (i := 1) (d := 32) (T := 42) (ad := ⟨b2, 0, none⟩) (vs := [.int .i64 (p1_0), .int .i64 (p1_1)]) (by kernel_rfl) (qT (qT qZ)) (by kernel_rfl) (by kernel_rfl) vt42 (fun W hW i u hu => box_cells (Z7.chg hW notNil) 0 hu (by rfl)) ?_
  refine wH_loadA (i := 3) (d := 34) (T := 42) (ad := ⟨b3, 0, none⟩) (vs := [.int .i64 (p2_0), .int .i64 (p2_1)]) (by kernel_rfl) (qT (qT qZ)) (by kernel_rfl) (by kernel_rfl) vt42 (fun W hW i u hu => box_cells (Z8.chg hW notNil) 0 hu (by rfl)) ?_
  refine wH_all [2] (by rfl) (by kernel_rfl) (by simp) ⟨⟨by kernel_rfl, ?_⟩, trivial⟩
  obtain ⟨y7, hy7, hm⟩ := bindE hm
  refine wS_calls (d := 33) (f := 17) (vs := [.agg #[.int .i64 (p1_0), .int .i64 (p1_1)]]) (by kernel_rfl) ent17 (c_laws_toPoint hy7) ?_
  rintro _ w14 ⟨rfl, hc14⟩
  replace F0_0 := F0_0.chg hc14 Dj.nil
  replace F1 := F1.chg hc14 notNil
  replace F2 := F2.chg hc14 notNil
  replace F3 := F3.chg hc14 notNil
  replace F4 := F4.chg hc14 Dj.nil
  replace F5 := F5.chg hc14 Dj.nil
  replace F7 := F7.chg hc14 notNil
  replace hB := hB.inS hc14 inNil
  have hSz := hS
  replace hS := hS.inS hc14 inNil
  replace hZ := Nat.le_trans hZ hc14.size
  refine ⟨.agg #[.int .i64 (y7.1), .int .i64 (y7.2)], rfl, ?_⟩
  refine wS_end (by kernel_rfl) ?_
  refine eX_KH hS ?_
  refine wH_all [4] (by rfl) (by kernel_rfl) (by simp) ⟨⟨by kernel_rfl, ?_⟩, trivial⟩
  obtain ⟨y8, hy8, hm⟩ := bindE hm
  refine wS_calls (d := 35) (f := 17) (vs := [.agg #[.int .i64 (p2_0), .int .i64 (p2_1)]]) (by kernel_rfl) ent17 (c_laws_toPoint hy8) ?_
  rintro _ w15 ⟨rfl, hc15⟩
  replace F0_0 := F0_0.chg hc15 Dj.nil
  replace F1 := F1.chg hc15 notNil
  replace F2 := F2.chg hc15 notNil
  replace F3 := F3.chg hc15 notNil
  replace F4 := F4.chg hc15 Dj.nil
  replace F5 := F5.chg hc15 Dj.nil
  replace F7 := F7.chg hc15 notNil
  replace hB := hB.inS hc15 inNil
  have hSz := hS
  replace hS := hS.inS hc15 inNil
  replace hZ := Nat.le_trans hZ hc15.size
  refine ⟨.agg #[.int .i64 (y8.1), .int .i64 (y8.2)], rfl, ?_⟩
  refine wS_end (by kernel_rfl) ?_
  refine eX_KH hS ?_
  refine wH_all [5] (by rfl) (by kernel_rfl) (by simp) ⟨⟨by kernel_rfl, ?_⟩, trivial⟩
  obtain ⟨y9, hy9, hm⟩ := bindE hm
  refine wS_calls (d := 36) (f := 10) (vs := [.agg #[.slice A2 (y6).length cap2], .agg #[.int .i64 (y7.1), .int .i64 (y7.2)], .agg #[.int .i64 (y8.1), .int .i64 (y8.2)]]) (by kernel_rfl) ent10 (c_impl_MostApart hy9 (F5.slr encI_ok)) ?_
  rintro _ w16 ⟨rfl, hc16⟩
  replace F0_0 := F0_0.chg hc16 Dj.nil
  replace F1 := F1.chg hc16 notNil
  replace F2 := F2.chg hc16 notNil
  replace F3 := F3.chg hc16 notNil
  replace F4 := F4.chg hc16 Dj.nil
  replace F5 := F5.chg hc16 Dj.nil
  replace F7 := F7.chg hc16 notNil
  replace hB := hB.inS hc16 inNil
  have hSz := hS
  replace hS := hS.inS hc16 inNil
  replace hZ := Nat.le_trans hZ hc16.size
  refine ⟨.tuple #[.int .i64 (y9.1), .bool (y9.2)], rfl, ?_⟩
  refine wS_end (by kernel_rfl) ?_
  refine eX_KH hS ?_
  refine wH_take [6, 7, 8, 9] [9, 8, 7, 6, 5, 4, 2, 3, 1, 0] [(11, .int .i64 (y9.1)), (38, .bool (y9.2)), (37, .int .i64 (y9.1)), (30, .tuple #[.int .i64 (y9.1), .bool (y9.2)])] (by kernel_rfl) (qT (qT qZ)) (by kernel_rfl) ?_
  refine wH_done (by kernel_rfl) ?_
  refine eX_tail ?_
  refine wS_pure 1 [(12, .bool (y9.2))] (by kernel_rfl) ?_
  refine wS_end (by rfl) ?_
  refine eX_then ?_
  refine cW_seq ?_
  refine cW_seq ?_
  refine cW_region ?_
  refine wS_pure 4 [(42, .bool (y9.1 != y5.1)), (41, .bool (y9.1 != y5.1)), (40, .int .i64 (y5.1)), (39, .int .i64 (y9.1))] (by kernel_rfl) ?_
  refine wS_bool (y9.1 != y5.1) (fun hb2 => ?_) (fun hb2 => ?_)
  ·have hm := condT hb2 hm
   rewrite [hb2]
   refine wS_pure 4 [(46, .bool (true)), (45, undef), (44, undef), (43, undef)] (by kernel_rfl) ?_
   refine wS_end (by rfl) ?_
   refine eX_then ?_
   refine cW_prune [(3, .pointer (some ⟨b1, 0, none⟩)), (10, .pointer (some ⟨b4, 0, none⟩)), (46, .bool (true))] (by kernel_rfl) (by kernel_rfl) (fun a2 => ?_)
   refine cW_cond_t (by kernel_rfl) ?_
   refine cW_seq ?_
   refine cW_region ?_
   refine wS_pure 1 [(6, .bool (false))] (by kernel_rfl) ?_
   refine wS_end (by rfl) ?_
   refine eX_then ?_
   refine cW_ret ?_
   refine eX_then_ret ?_
   have hq : (some false : Option ((Bool))) = some _ := hm
   replace hq := someE hq
   subst hq
   refine eX_ret (vs := [.bool (false)]) [.tmp 6] (by rfl) ⟨by (show lkE _ _ _ = _); kernel_rfl, trivial⟩ ?_
   exact ⟨rfl, hB⟩
  ·have hm := condF hb2 hm
   rewrite [hb2]
   refine wS_pure 4 [(46, .bool (!(y9.2 == y5.2))), (45, .bool (!(y9.2 == y5.2))), (44, .bool (y5.2)), (43, .bool (y9.2))] (by kernel_rfl) ?_
   refine wS_end (by rfl) ?_
   refine eX_then ?_
   refine cW_prune [(3, .pointer (some ⟨b1, 0, none⟩)), (10, .pointer (some ⟨b4, 0, none⟩)), (46, .bool (!(y9.2 == y5.2)))] (by kernel_rfl) (by kernel_rfl) (fun a3 => ?_)
   refine cW_cond (t := !(y9.2 == y5.2)) (by kernel_rfl) (fun hb3 => ?_) (fun hb3 => ?_)
   ·have hm := condT hb3 hm
    refine cW_seq ?_
    refine cW_region ?_
    refine wS_pure 1 [(6, .bool (false))] (by kernel_rfl) ?_
    refine wS_end (by rfl) ?_
    refine eX_then ?_
    refine cW_ret ?_
    refine eX_then_ret ?_
    have hq : (some false : Option ((Bool))) = some _ := hm
    replace hq := someE hq
    subst hq
    refine eX_ret (vs := [.bool (false)]) [.tmp 6] (by rfl) ⟨by (show lkE _ _ _ = _); kernel_rfl, trivial⟩ ?_
    exact ⟨rfl, hB⟩
   ·have hm := condF hb3 hm
    refine cW_skip ?_
    refine eX_then ?_
    refine cW_seq ?_
    refine cW_seq ?_
    refine cW_drawnTail [] 3 (by kernel_rfl) (by kernel_rfl) (fun w17 hc17 => ?_)
    replace F0_0 := F0_0.chg hc17 Dj.nil
    replace F1 := F1.chg hc17 notNil
    replace F2 := F2.chg hc17 notNil
    replace F3 := F3.chg hc17 notNil
    replace F4 := F4.chg hc17 Dj.nil
    replace F5 := F5.chg hc17 Dj.nil
    replace F7 := F7.chg hc17 notNil
    replace hB := hB.inS hc17 inNil
    replace hZ := Nat.le_trans hZ hc17.size
    have hS := Chg.refl [] w17
    have Z12 := F0_0
    have Z13 := F1
    have Z14 := F2
    have Z15 := F3
    have Z16 := F4
    have Z17 := F5
    have Z18 := F7
    refine wH_loadA (i := 0) (d := 47) (T := 26) (ad := ⟨b4, 0, none⟩) (vs := [.slice A2 (y6).length cap2]) (by kernel_rfl) (qT (qT (qT qZ))) (by kernel_rfl) (by kernel_rfl) vt26 (fun W hW i u hu => box_cells (Z18.chg hW notNil) 0 hu (by rfl)) ?_
    refine wH_loadA (i := 1) (d := 48) (T := 41) (ad := ⟨b1, 0, none⟩) (vs := [.slice A0_0 (l0_0).length cap0_0]) (by kernel_rfl) (qT (qT (qT qZ))) (by kernel_rfl) (by kernel_rfl) vt41 (fun W hW i u hu => box_cells (Z13.chg hW notNil) 0 hu (by rfl)) ?_
    refine wH_all [2] (by rfl) (by kernel_rfl) (by simp) ⟨⟨by kernel_rfl, ?_⟩, trivial⟩
    obtain ⟨y10, hy10, hm⟩ := bindE hm
    refine wS_calls (d := 49) (f := 16) (vs := [.agg #[.slice A0_0 (l0_0).length cap0_0]]) (by kernel_rfl) ent16 (c_laws_toMaze hy10 F0_0) ?_
    rintro _ w18 ⟨A3, cap3, fp3, fr3, rfl, F8, G7, hc18⟩
    have D16 : Dj [b1] (fp3 ++ fr3) := Dj.of (lt1 F1.lt) G7
    have D17 : Dj [b2] (fp3 ++ fr3) := Dj.of (lt1 F2.lt) G7
    have D18 : Dj [b3] (fp3 ++ fr3) := Dj.of (lt1 F3.lt) G7
    have D19 : Dj (fp1 ++ fr1) (fp3 ++ fr3) := Dj.of F4.low G7
    have D20 : Dj (fp2 ++ fr2) (fp3 ++ fr3) := Dj.of F5.low G7
    have D21 : Dj [b4] (fp3 ++ fr3) := Dj.of (lt1 F7.lt) G7
    replace F0_0 := F0_0.chg hc18 Dj.nil
    replace F1 := F1.chg hc18 notNil
    replace F2 := F2.chg hc18 notNil
    replace F3 := F3.chg hc18 notNil
    replace F4 := F4.chg hc18 Dj.nil
    replace F5 := F5.chg hc18 Dj.nil
    replace F7 := F7.chg hc18 notNil
    replace hB := hB.inS hc18 inNil
    have hSz := hS
    replace hS := hS.inS hc18 inNil
    replace G7 := low_le hZ G7
    replace hZ := Nat.le_trans hZ hc18.size
    refine ⟨.agg #[.slice A3 (y10).length cap3], rfl, ?_⟩
    refine wS_end (by kernel_rfl) ?_
    refine eX_KH hS ?_
    refine wH_done (by kernel_rfl) ?_
    refine eX_tail ?_
    obtain ⟨y11, hy11, hm⟩ := bindE hm
    refine wS_calls (d := 50) (f := 18) (vs := [.agg #[.slice A2 (y6).length cap2], .agg #[.slice A3 (y10).length cap3]]) (by kernel_rfl) ent18 (c_laws_eqMaze hy11 (F5.slr encI_ok) (F8.slr encI_ok)) ?_
    rintro _ w19 ⟨rfl, hc19⟩
    replace F0_0 := F0_0.chg hc19 Dj.nil
    replace F1 := F1.chg hc19 notNil
    replace F2 := F2.chg hc19 notNil
    replace F3 := F3.chg hc19 notNil
    replace F4 := F4.chg hc19 Dj.nil
    replace F5 := F5.chg hc19 Dj.nil
    replace F7 := F7.chg hc19 notNil
    replace F8 := F8.chg hc19 Dj.nil
    replace hB := hB.inS hc19 inNil
    replace hZ := Nat.le_trans hZ hc19.size
    refine ⟨.bool (y11), rfl, ?_⟩
    refine wS_pure 1 [(51, .bool (!y11))] (by kernel_rfl) ?_
    refine wS_end (by rfl) ?_
    refine eX_then ?_
    refine cW_cond (t := !y11) (by kernel_rfl) (fun hb4 => ?_) (fun hb4 => ?_)
    ·have hm := condT hb4 hm
     refine cW_seq ?_
     refine cW_region ?_
     refine wS_pure 1 [(6, .bool (false))] (by kernel_rfl) ?_
     refine wS_end (by rfl) ?_
     refine eX_then ?_
     refine cW_ret ?_
     refine eX_then_ret ?_
     have hq : (some false : Option ((Bool))) = some _ := hm
     replace hq := someE hq
     subst hq
     refine eX_ret (vs := [.bool (false)]) [.tmp 6] (by rfl) ⟨by (show lkE _ _ _ = _); kernel_rfl, trivial⟩ ?_
     exact ⟨rfl, hB⟩
    ·have hm := condF hb4 hm
     refine cW_skip ?_
     refine eX_then ?_
     refine cW_seq ?_
     refine cW_region ?_
     refine wS_pure 1 [(6, .bool (true))] (by kernel_rfl) ?_
     refine wS_end (by rfl) ?_
     refine eX_then ?_
     refine cW_ret ?_
     have hq : (some true : Option ((Bool))) = some _ := hm
     replace hq := someE hq
     subst hq
     refine eX_ret (vs := [.bool (true)]) [.tmp 6] (by rfl) ⟨by (show lkE _ _ _ = _); kernel_rfl, trivial⟩ ?_
     exact ⟨rfl, hB⟩

set_option maxRecDepth 100000 in
/-- spec.l04Sorted -/
theorem c_spec_l04Sorted_bimplMaze {w0 : World} {l0_0 : List (List (Int))} {A0_0 : Option Addr} {cap0_0 : Nat} {fp0_0 : List Nat} {b0 : Nat} {l1 : List (Bool)} {A1 : Option Addr} {cap1 : Nat} {fp1 : List Nat} {r : (List (Int × Int))} (hm : m_spec_l04Sorted_bimplMaze l0_0 l1 = some r) (F0_0 : SlR 1 encI w0 fp0_0 A0_0 l0_0) (F0 : Cl w0 b0 26 [.slice A0_0 (l0_0).length cap0_0]) (F1 : Sl 1 encB w0 fp1 A1 l1) :
  Calls Try.prog 42 #[.pointer (some ⟨b0, 0, none⟩), .slice A1 (l1).length cap1] w0 fun e w' => ∃ A100 cap100 fp100, e = .returned (.slice A100 (r).length cap100) ∧ Ow 2 encII 29 w' fp100 A100 cap100 r ∧ (∀ x ∈ fp100, w0.heap.size ≤ x) ∧ Chg [] w0 w' := by
 have L0_0 := F0_0.low
 have L0 := lt1 F0.lt
 have L1 := F1.low
 have hB : Chg [] w0 w0 := Chg.refl _ _
 have hZ := Nat.le_refl w0.heap.size
 unfold m_spec_l04Sorted_bimplMaze at hm
 refine enterE (N := 44) Try.func42 (by rfl) Try.ntmps42 (by simp) [(0, .pointer (some ⟨b0, 0, none⟩)), (1, .slice A1 (l1).length cap1)] (by rfl) (by kernel_rfl) (fun a => ?_)
 refine cW_seq ?_
 refine cW_region ?_
 refine wS_pure 1 [(4, .slice none 0 0)] (by kernel_rfl) ?_
 refine wS_end (by rfl) ?_
 refine eX_then ?_
 refine cW_seq ?_
 refine cW_region ?_
 refine wS_bs0 (α := Int × Int) (enc := encII) (d := 9) (t := 31) (T := 29) (by kernel_rfl) el31 ?_
 intro b1 w1 G1 F2 hc1
 replace F0_0 := F0_0.chg hc1 Dj.nil
 replace F0 := F0.chg hc1 notNil
 replace F1 := F1.chg hc1 Dj.nil
 replace hB := hB.inS hc1 inNil
 replace G1 := Nat.le_trans hZ G1
 replace G1 := low1 G1
 replace hZ := Nat.le_trans hZ hc1.size
 refine wS_pure 1 [(5, .slice (some ⟨b1, 0, none⟩) (([] : List (Int × Int))).length 0)] (by kernel_rfl) ?_
 refine wS_end (by rfl) ?_
 refine eX_then ?_
 refine cW_seq ?_
 refine cW_seq ?_
 refine cW_region ?_
 refine wS_pure 1 [(6, .int .i64 (0))] (by kernel_rfl) ?_
 refine wS_end (by rfl) ?_
 refine eX_then ?_
 obtain ⟨r1, hr1, hm⟩ := bindE hm
 have hm1 := hm
 refine cW_cut (fun a' w' => ∃ l3 : List (Int × Int), ∃ A3 : Option Addr, ∃ cap3 : Nat, ∃ fp2 : List Nat, l3 = r1 ∧ Fr 44 [(5, .slice A3 (l3).length cap3)] a' ∧ Ow 2 encII 29 w' fp2 A3 cap3 l3 ∧ (∀ x ∈ fp2, w0.heap.size ≤ x) ∧ Chg [] w0 w' ∧ w0.heap.size ≤ w'.heap.size) ?_ ?_
 ·refine cW_block ?_
  refine cW_loop _ (fun (s1 : (List (Int × Int)) × Int) a' w' => ∃ l4 : List (Int × Int), ∃ A4 : Option Addr, ∃ cap4 : Nat, ∃ fp3 : List Nat, ∃ x1 : Int, (l4, x1) = s1 ∧ Fr 44 [(0, .pointer (some ⟨b0, 0, none⟩)), (1, .slice A1 (l1).length cap1), (5, .slice A4 (l4).length cap4), (6, .int .i64 (x1))] a' ∧ SlR 1 encI w' fp0_0 A0_0 l0_0 ∧ Cl w' b0 26 [.slice A0_0 (l0_0).length cap0_0] ∧ Sl 1 encB w' fp1 A1 l1 ∧ Ow 2 encII 29 w' fp3 A4 cap4 l4 ∧ (∀ x ∈ fp3, w0.heap.size ≤ x) ∧ Chg [] w0 w' ∧ w0.heap.size ≤ w'.heap.size) hr1 (fun hst => ⟨([] : List (Int × Int)), (some ⟨b1, 0, none⟩), 0, [b1], 0, rfl, Fr.of hst (by kernel_rfl), F0_0, F0, F1, F2, G1, hB, hZ⟩) ?_
  rintro _ c1 a' w2 ⟨l4, A4, cap4, fp3, x1, rfl, hF1, F3, F4, F5, F6, G2, hB, hZ⟩ hx1
  refine Fr.goOn hF1 (by kernel_rfl) ?_
  have hm := hx1
  unfold m_spec_l04Sorted_bimplMaze_s3 at hm
  refine cW_seq ?_
  refine cW_seq ?_
  refine cW_region ?_
  refine wS_pure 4 [(13, .pointer (some ⟨b0, 0, none⟩)), (12, .pointer (some ⟨b0, 0, none⟩)), (11, .pointer (some ⟨b0, 0, none⟩)), (10, .int .i64 (x1))] (by kernel_rfl) ?_
  refine wS_load1 (d := 14) (T := 24) (ad := ⟨b0, 0, none⟩) (v := .slice A0_0 (l0_0).length cap0_0) (by kernel_rfl) vt24 ((F4).cell 0) ?_
  obtain ⟨x2, hx2, hm⟩ := bindE hm
  refine wS_idx (d := 15) (T := 24) (A := A0_0) (n := (l0_0).length) (cap := cap0_0) (kd := .i64) (m := 0) (by kernel_rfl) sl24 (F3.is hx2) ?_
  obtain ⟨A5, cap5, hc2, F7, K1⟩ := SlR.row F3 hx2
  refine wS_load1 (d := 16) (T := 38) (ad := (elA A0_0 1 (0) 0)) (v := .slice A5 (x2).length cap5) (by kernel_rfl) vt38 hc2 ?_
  refine wS_pure 2 [(18, .bool (decide (x1 < (((x2).length : Int))))), (17, .int .i64 (((x2).length : Int)))] (by kernel_rfl) ?_
  refine wS_end (by rfl) ?_
  refine eX_then ?_
  refine cW_cond (t := decide (x1 < (((x2).length : Int)))) (by kernel_rfl) (fun hb1 => ?_) (fun hb1 => ?_)
  ·have hm := condT hb1 hm
   refine cW_skip ?_
   refine eX_then ?_
   refine cW_seq ?_
   refine cW_block ?_
   refine cW_seq ?_
   refine cW_region ?_
   refine wS_pure 1 [(7, .int .i64 (0))] (by kernel_rfl) ?_
   refine wS_end (by rfl) ?_
   refine eX_then ?_
   obtain ⟨r2, hr2, hm⟩ := bindE hm
   have hm2 := hm
   refine cW_cut (fun a' w' => ∃ l5 : List (Int × Int), ∃ A6 : Option Addr, ∃ cap6 : Nat, ∃ fp4 : List Nat, l5 = r2 ∧ Fr 44 [(0, .pointer (some ⟨b0, 0, none⟩)), (1, .slice A1 (l1).length cap1), (5, .slice A6 (l5).length cap6), (6, .int .i64 (x1))] a' ∧ SlR 1 encI w' fp0_0 A0_0 l0_0 ∧ Cl w' b0 26 [.slice A0_0 (l0_0).length cap0_0] ∧ Sl 1 encB w' fp1 A1 l1 ∧ Ow 2 encII 29 w' fp4 A6 cap6 l5 ∧ (∀ x ∈ fp4, w0.heap.size ≤ x) ∧ Chg [] w0 w' ∧ w0.heap.size ≤ w'.heap.size) ?_ ?_
   ·refine cW_block ?_
    refine cW_loop _ (fun (s2 : (List (Int × Int)) × Int) a' w' => ∃ l6 : List (Int × Int), ∃ A7 : Option Addr, ∃ cap7 : Nat, ∃ fp5 : List Nat, ∃ x3 : Int, (l6, x3) = s2 ∧ Fr 44 [(0, .pointer (some ⟨b0, 0, none⟩)), (1, .slice A1 (l1).length cap1), (5, .slice A7 (l6).length cap7), (6, .int .i64 (x1)), (7, .int .i64 (x3))] a' ∧ SlR 1 encI w' fp0_0 A0_0 l0_0 ∧ Cl w' b0 26 [.slice A0_0 (l0_0).length cap0_0] ∧ Sl 1 encB w' fp1 A1 l1 ∧ Ow 2 encII 29 w' fp5 A7 cap7 l6 ∧ (∀ x ∈ fp5, w0.heap.size ≤ x) ∧ Chg [] w0 w' ∧ w0.heap.size ≤ w'.heap.size) hr2 (fun hst => ⟨l4, A4, cap4, fp3, 0, rfl, Fr.of hst (by kernel_rfl), F3, F4, F5, F6, G2, hB, hZ⟩) ?_
    rintro _ c2 a' w3 ⟨l6, A7, cap7, fp5, x3, rfl, hF2, F8, F9, F10, F11, G3, hB, hZ⟩ hx3
    refine Fr.goOn hF2 (by kernel_rfl) ?_
    have hm := hx3
    unfold m_spec_l04Sorted_bimplMaze_s4 at hm
    refine cW_seq ?_
    refine cW_seq ?_
    refine cW_region ?_
    refine wS_pure 4 [(24, .pointer (some ⟨b0, 0, none⟩)), (23, .pointer (some ⟨b0, 0, none⟩)), (22, .pointer (some ⟨b0, 0, none⟩)), (21, .int .i64 (x3))] (by kernel_rfl) ?_
    refine wS_load1 (d := 25) (T := 24) (ad := ⟨b0, 0, none⟩) (v := .slice A0_0 (l0_0).length cap0_0) (by kernel_rfl) vt24 ((F9).cell 0) ?_
    refine wS_pure 2 [(27, .bool (decide (x3 < (((l0_0).length : Int))))), (26, .int .i64 (((l0_0).length : Int)))] (by kernel_rfl) ?_
    refine wS_end (by rfl) ?_
    refine eX_then ?_
    refine cW_cond (t := decide (x3 < (((l0_0).length : Int)))) (by kernel_rfl) (fun hb2 => ?_) (fun hb2 => ?_)
    ·have hm := condT hb2 hm
     refine cW_skip ?_
     refine eX_then ?_
     refine cW_seq ?_
     refine cW_block ?_
     obtain ⟨s3, hs1, hm⟩ := bindE hm
     refine cW_cut (fun a' w' => ∃ l7 : List (Int × Int), ∃ A8 : Option Addr, ∃ cap8 : Nat, ∃ fp6 : List Nat, l7 = s3 ∧ Fr 44 [(0, .pointer (some ⟨b0, 0, none⟩)), (1, .slice A1 (l1).length cap1), (5, .slice A8 (l7).length cap8), (6, .int .i64 (x1)), (7, .int .i64 (x3))] a' ∧ SlR 1 encI w' fp0_0 A0_0 l0_0 ∧ Cl w' b0 26 [.slice A0_0 (l0_0).length cap0_0] ∧ Sl 1 encB w' fp1 A1 l1 ∧ Ow 2 encII 29 w' fp6 A8 cap8 l7 ∧ (∀ x ∈ fp6, w0.heap.size ≤ x) ∧ Chg [] w0 w' ∧ w0.heap.size ≤ w'.heap.size) ?_ ?_
     ·have hm := hs1
      refine cW_seq ?_
      refine cW_region ?_
      refine wS_pure 3 [(32, .agg #[.int .i64 (x1), .int .i64 (x3)]), (31, .int .i64 (x3)), (30, .int .i64 (x1))] (by kernel_rfl) ?_
      refine wS_alloc (d := 8) (T := 29) (z := .agg #[.int .i64 (0), .int .i64 (0)]) (by kernel_rfl) (by kernel_rfl) ?_
      intro b2 w4 G4 F12 hc3
      replace F12 : Cl w4 b2 29 [.int .i64 (0), .int .i64 (0)] := F12
      have D1 : Dj fp5 [b2] := Dj.of F11.low (low1 G4)
      replace F8 := F8.chg hc3 Dj.nil
      replace F9 := F9.chg hc3 notNil
      replace F10 := F10.chg hc3 Dj.nil
      replace F11 := F11.chg hc3 Dj.nil
      replace hB := hB.inS hc3 inNil
      replace G4 := Nat.le_trans hZ G4
      replace hZ := Nat.le_trans hZ hc3.size
      refine wS_store (T := 29) (g := b2) (o := 0) (ad := ⟨b2, 0, none⟩) (v := .agg #[.int .i64 (x1), .int .i64 (x3)]) (vs := [.int .i64 (x1), .int .i64 (x3)]) (by kernel_rfl) (by rfl) sz29 (by rfl) (by rfl) F12 (by simp only [List.length_cons, List.length_nil]; omega) ?_
      intro w5 F13 hc4
      replace F8 := F8.chg hc4 (Dj.of L0_0 (low1 G4))
      replace F9 := F9.chg hc4 (dj1 (Dj.of L0 (low1 G4)))
      replace F10 := F10.chg hc4 (Dj.of L1 (low1 G4))
      replace F11 := F11.chg hc4 D1
      replace hB := hB.inS hc4 (inLow (low1 G4))
      replace hZ := Nat.le_trans hZ hc4.size
      replace F13 : Cl w5 b2 29 [.int .i64 (x1), .int .i64 (x3)] := F13
      clear F12
      refine wS_end (by rfl) ?_
      refine eX_then ?_
      refine cW_seq ?_
      refine cW_region ?_
      refine wS_pure 2 [(34, .pointer (some ⟨b0, 0, none⟩)), (33, .slice A1 (l1).length cap1)] (by kernel_rfl) ?_
      refine wS_loadA (d := 35) (T := 29) (ad := ⟨b2, 0, none⟩) (vs := [.int .i64 (x1), .int .i64 (x3)]) (by kernel_rfl) vt29 (fun i u hu => box_cells F13 0 hu (by rfl)) ?_
      obtain ⟨y1, hy1, hm⟩ := bindE hm
      refine wS_calls (d := 36) (f := 61) (vs := [.pointer (some ⟨b0, 0, none⟩), .agg #[.int .i64 (x1), .int .i64 (x3)]]) (by kernel_rfl) ent61 (c_spec_l04Index_bimplMaze hy1 F8 F9) ?_
      rintro _ w6 ⟨rfl, hc5⟩
      replace F8 := F8.chg hc5 Dj.nil
      replace F9 := F9.chg hc5 notNil
      replace F10 := F10.chg hc5 Dj.nil
      replace F11 := F11.chg hc5 Dj.nil
      replace F13 := F13.chg hc5 notNil
      replace hB := hB.inS hc5 inNil
      replace hZ := Nat.le_trans hZ hc5.size
      refine ⟨.int .i64 (y1), rfl, ?_⟩
      obtain ⟨x4, hx4, hm⟩ := bindE hm
      refine wS_idx (d := 37) (T := 76) (A := A1) (n := (l1).length) (cap := cap1) (kd := .i64) (m := y1) (by kernel_rfl) sl76 (F10.is hx4) ?_
      refine wS_load1 (d := 38) (T := 4) (ad := (elA A1 1 (y1) 0)) (v := .bool (x4)) (by kernel_rfl) vt4 (Sl.cell F10 hx4 0 (by rfl)) ?_
      refine wS_end (by rfl) ?_
      refine eX_then ?_
      refine cW_cond (t := x4) (by kernel_rfl) (fun hb3 => ?_) (fun hb3 => ?_)
      ·have hm := condT hb3 hm
       refine cW_region ?_
       refine wS_pure 1 [(39, .slice A7 (l6).length cap7)] (by kernel_rfl) ?_
       refine wS_loadA (d := 40) (T := 29) (ad := ⟨b2, 0, none⟩) (vs := [.int .i64 (x1), .int .i64 (x3)]) (by kernel_rfl) vt29 (fun i u hu => box_cells F13 0 hu (by rfl)) ?_
       refine wS_bs (enc := encII) ([(x1, x3)] : List (Int × Int)) [.int .i64 (x1), .int .i64 (x3)] (d := 41) (t := 31) (T := 29) (n := 1) (ps := [(0, .agg #[.int .i64 (x1), .int .i64 (x3)])]) (by kernel_rfl) el31 encII_ok (by rfl) (by omega) (by omega) (by kernel_rfl) (by rfl) ?_
       intro b3 w7 G5 F14 hc6
       have D2 : Dj fp5 [b3] := Dj.of F11.low (low1 G5)
       have D3 : Dj [b2] [b3] := Dj.of (lt1 F13.lt) (low1 G5)
       replace F8 := F8.chg hc6 Dj.nil
       replace F9 := F9.chg hc6 notNil
       replace F10 := F10.chg hc6 Dj.nil
       replace F11 := F11.chg hc6 Dj.nil
       replace F13 := F13.chg hc6 notNil
       replace hB := hB.inS hc6 inNil
       replace G5 := Nat.le_trans hZ G5
       replace G5 := low1 G5
       replace hZ := Nat.le_trans hZ hc6.size
       obtain ⟨_, hk1, hm⟩ := bindE hm
       replace hk1 := apE hk1
       refine wS_append (enc := encII) (l := (l6 : List (Int × Int))) (l2 := (([(x1, x3)] : List (Int × Int)) : List (Int × Int))) (d := 42) (t := 31) (T := 29) (A := A7) (A2 := (some ⟨b3, 0, none⟩)) (cap := cap7) (cap2 := 1) (by kernel_rfl) el31 encII_ok F11 (F14.sl encII_ok) (by rfl) hk1 ?_
       intro w8 fp7 A9 cap9 F15 hc7 hp1
       have G6 := low_ap G3 hZ hp1
       have D4 : Dj [b2] fp7 := Dj.ap (D1).symm (lt1 F13.lt) hp1
       have D5 : Dj [b3] fp7 := Dj.ap (D2).symm F14.low hp1
       replace F8 := F8.chg hc7 (Dj.of L0_0 G3)
       replace F9 := F9.chg hc7 (dj1 (Dj.of L0 G3))
       replace F10 := F10.chg hc7 (Dj.of L1 G3)
       replace F13 := F13.chg hc7 (dj1 (D1).symm)
       replace F14 := F14.chg hc7 (D2).symm
       replace hB := hB.inS hc7 (inLow G3)
       replace hZ := Nat.le_trans hZ hc7.size
       refine wS_pure 1 [(5, .slice A9 (l6 ++ (([(x1, x3)] : List (Int × Int)))).length cap9)] (by kernel_rfl) ?_
       refine wS_end (by rfl) ?_
       have hq : (some (l6 ++ (([(x1, x3)] : List (Int × Int)))) : Option ((List (Int × Int)))) = some _ := hm
       replace hq := someE hq
       subst hq
       exact eX_J (fun hst => ⟨l6 ++ (([(x1, x3)] : List (Int × Int))), A9, cap9, fp7, rfl, Fr.of hst (by kernel_rfl), F8, F9, F10, F15, G6, hB, hZ⟩)
      ·have hm := condF hb3 hm
       refine cW_skip ?_
       have hq : (some l6 : Option ((List (Int × Int)))) = some _ := hm
       replace hq := someE hq
       subst hq
       exact eX_J (fun hst => ⟨l6, A7, cap7, fp5, rfl, Fr.of hst (by kernel_rfl), F8, F9, F10, F11, G3, hB, hZ⟩)
     ·rintro a' w9 ⟨l7, A8, cap8, fp6, hJ, hF3, F16, F17, F18, F19, G7, hB, hZ⟩
      subst hJ
      refine Fr.goX hF3 (by kernel_rfl) ?_
      refine eX_block ?_
      refine eX_then ?_
      refine cW_region ?_
      refine wS_pure 3 [(7, .int .i64 (wr (x3 + 1))), (29, .int .i64 (wr (x3 + 1))), (28, .int .i64 (x3))] (by kernel_rfl) ?_
      refine wS_end (by rfl) ?_
      have hq : (some (Ctl.next ((l7, wr (x3 + 1)))) : Option (Ctl ((List (Int × Int)) × Int) ((List (Int × Int))))) = some _ := hm
      replace hq := someE hq
      subst hq
      exact eX_next hx3 (fun hst => ⟨l7, A8, cap8, fp6, wr (x3 + 1), rfl, Fr.of hst (by kernel_rfl), F16, F17, F18, F19, G7, hB, hZ⟩)
    ·have hm := condF hb2 hm
     refine cW_exit ?_
     refine eX_then_exit ?_
     have hq : (some (Ctl.out l6) : Option (Ctl ((List (Int × Int)) × Int) ((List (Int × Int))))) = some _ := hm
     replace hq := someE hq
     subst hq
     refine eX_outX hx3 (fun hr3 => ?_)
     replace hr3 := hr3.symm
     subst hr3
     refine eX_block_hit ?_
     exact eX_J (fun hst => ⟨l6, A7, cap7, fp5, rfl, Fr.of hst (by kernel_rfl), F8, F9, F10, F11, G3, hB, hZ⟩)
   ·rintro a' w10 ⟨l5, A6, cap6, fp4, hJ, hF4, F20, F21, F22, F23, G8, hB, hZ⟩
    subst hJ
    refine Fr.goX hF4 (by kernel_rfl) ?_
    refine eX_block ?_
    refine eX_then ?_
    refine cW_region ?_
    refine wS_pure 3 [(6, .int .i64 (wr (x1 + 1))), (20, .int .i64 (wr (x1 + 1))), (19, .int .i64 (x1))] (by kernel_rfl) ?_
    refine wS_end (by rfl) ?_
    have hq : (some (Ctl.next ((l5, wr (x1 + 1)))) : Option (Ctl ((List (Int × Int)) × Int) ((List (Int × Int))))) = some _ := hm
    replace hq := someE hq
    subst hq
    exact eX_next hx1 (fun hst => ⟨l5, A6, cap6, fp4, wr (x1 + 1), rfl, Fr.of hst (by kernel_rfl), F20, F21, F22, F23, G8, hB, hZ⟩)
  ·have hm := condF hb1 hm
   refine cW_exit ?_
   refine eX_then_exit ?_
   have hq : (some (Ctl.out l4) : Option (Ctl ((List (Int × Int)) × Int) ((List (Int × Int))))) = some _ := hm
   replace hq := someE hq
   subst hq
   refine eX_outX hx1 (fun hr4 => ?_)
   replace hr4 := hr4.symm
   subst hr4
   refine eX_block_hit ?_
   exact eX_J (fun hst => ⟨l4, A4, cap4, fp3, rfl, Fr.of hst (by kernel_rfl), F6, G2, hB, hZ⟩)
 ·rintro a' w11 ⟨l3, A3, cap3, fp2, hJ, hF5, F24, G9, hB, hZ⟩
  subst hJ
  refine Fr.goX hF5 (by kernel_rfl) ?_
  refine eX_then ?_
  refine cW_seq ?_
  refine cW_region ?_
  refine wS_pure 2 [(4, .slice A3 (l3).length cap3), (43, .slice A3 (l3).length cap3)] (by kernel_rfl) ?_
  refine wS_end (by rfl) ?_
  refine eX_then ?_
  refine cW_ret ?_
  have hq : (some l3 : Option ((List (Int × Int)))) = some _ := hm
  replace hq := someE hq
  subst hq
  refine eX_ret (vs := [.slice A3 (l3).length cap3]) [.tmp 4] (by rfl) ⟨by (show lkE _ _ _ = _); kernel_rfl, trivial⟩ ?_
  exact ⟨A3, cap3, fp2, rfl, F24, G9, hB⟩

set_option maxRecDepth 100000 in
/-- spec.FewestBlocks -/
theorem c_spec_FewestBlocks {w0 : World} {l0_0 : List (List (Int))} {A0_0 : Option Addr} {cap0_0 : Nat} {fp0_0 : List Nat} {p1_0 : Int} {p1_1 : Int} {p2_0 : Int} {p2_1 : Int} {r : (List (Int × Int)) × (Bool)} (hm : m_spec_FewestBlocks l0_0 p1_0 p1_1 p2_0 p2_1 = some r) (F0_0 : SlR 1 encI w0 fp0_0 A0_0 l0_0) :
  Calls Try.prog 19 #[.agg #[.slice A0_0 (l0_0).length cap0_0], .agg #[.int .i64 (p1_0), .int .i64 (p1_1)], .agg #[.int .i64 (p2_0), .int .i64 (p2_1)]] w0 fun e w' => ∃ A100 cap100 fp100, e = .returned (.tuple #[.slice A100 (r.1).length cap100, .bool (r.2)]) ∧ Ow 2 encII 29 w' fp100 A100 cap100 r.1 ∧ (∀ x ∈ fp100, w0.heap.size ≤ x) ∧ Chg [] w0 w' := by
 have L0_0 := F0_0.low
 have hB : Chg [] w0 w0 := Chg.refl _ _
 have hZ := Nat.le_refl w0.heap.size
 unfold m_spec_FewestBlocks at hm
 refine enterE (N := 52) Try.func19 (by rfl) Try.ntmps19 (by simp) [(0, .agg #[.slice A0_0 (l0_0).length cap0_0]), (1, .agg #[.int .i64 (p1_0), .int .i64 (p1_1)]), (2, .agg #[.int .i64 (p2_0), .int .i64 (p2_1)])] (by rfl) (by kernel_rfl) (fun a => ?_)
 refine cW_seq ?_
 refine cW_region ?_
 refine wS_box (d := 3) (T := 26) (x := .agg #[.slice A0_0 (l0_0).length cap0_0]) (by kernel_rfl) ?_
 intro b1 w1 G1 F1 hc1
 replace F1 : Cl w1 b1 26 [.slice A0_0 (l0_0).length cap0_0] := F1
 replace F0_0 := F0_0.chg hc1 Dj.nil
 replace hB := hB.inS hc1 inNil
 replace G1 := Nat.le_trans hZ G1
 replace hZ := Nat.le_trans hZ hc1.size
 refine wS_box (d := 4) (T := 29) (x := .agg #[.int .i64 (p1_0), .int .i64 (p1_1)]) (by kernel_rfl) ?_
 intro b2 w2 G2 F2 hc2
 replace F2 : Cl w2 b2 29 [.int .i64 (p1_0), .int .i64 (p1_1)] := F2
 have D1 : Dj [b1] [b2] := Dj.of (lt1 F1.lt) (low1 G2)
 replace F0_0 := F0_0.chg hc2 Dj.nil
 replace F1 := F1.chg hc2 notNil
 replace hB := hB.inS hc2 inNil
 replace G2 := Nat.le_trans hZ G2
 replace hZ := Nat.le_trans hZ hc2.size
 refine wS_box (d := 5) (T := 29) (x := .agg #[.int .i64 (p2_0), .int .i64 (p2_1)]) (by kernel_rfl) ?_
 intro b3 w3 G3 F3 hc3
 replace F3 : Cl w3 b3 29 [.int .i64 (p2_0), .int .i64 (p2_1)] := F3
 have D2 : Dj [b1] [b3] := Dj.of (lt1 F1.lt) (low1 G3)
 have D3 : Dj [b2] [b3] := Dj.of (lt1 F2.lt) (low1 G3)
 replace F0_0 := F0_0.chg hc3 Dj.nil
 replace F1 := F1.chg hc3 notNil
 replace F2 := F2.chg hc3 notNil
 replace hB := hB.inS hc3 inNil
 replace G3 := Nat.le_trans hZ G3
 replace hZ := Nat.le_trans hZ hc3.size
 refine wS_pure 2 [(7, .bool (false)), (6, .slice none 0 0)] (by kernel_rfl) ?_
 refine wS_end (by rfl) ?_
 refine eX_then ?_
 refine cW_seq ?_
 refine cW_seq ?_
 refine cW_region ?_
 refine wS_loadA (d := 12) (T := 29) (ad := ⟨b2, 0, none⟩) (vs := [.int .i64 (p1_0), .int .i64 (p1_1)]) (by kernel_rfl) vt29 (fun i u hu => box_cells F2 0 hu (by rfl)) ?_
 refine wS_loadA (d := 13) (T := 29) (ad := ⟨b3, 0, none⟩) (vs := [.int .i64 (p2_0), .int .i64 (p2_1)]) (by kernel_rfl) vt29 (fun i u hu => box_cells F3 0 hu (by rfl)) ?_
 obtain ⟨y1, hy1, hm⟩ := bindE hm
 refine wS_calls (d := 14) (f := 38) (vs := [.pointer (some ⟨b1, 0, none⟩), .agg #[.int .i64 (p1_0), .int .i64 (p1_1)], .agg #[.int .i64 (p2_0), .int .i64 (p2_1)]]) (by kernel_rfl) ent38 (c_spec_l04Both_bimplMaze hy1 F0_0 F1) ?_
 rintro _ w4 ⟨rfl, hc4⟩
 replace F0_0 := F0_0.chg hc4 Dj.nil
 replace F1 := F1.chg hc4 notNil
 replace F2 := F2.chg hc4 notNil
 replace F3 := F3.chg hc4 notNil
 replace hB := hB.inS hc4 inNil
 replace hZ := Nat.le_trans hZ hc4.size
 refine ⟨.bool (y1), rfl, ?_⟩
 refine wS_pure 1 [(15, .bool (!y1))] (by kernel_rfl) ?_
 refine wS_end (by rfl) ?_
 refine eX_then ?_
 refine cW_cond (t := !y1) (by kernel_rfl) (fun hb1 => ?_) (fun hb1 => ?_)
 ·have hm := condT hb1 hm
  refine cW_seq ?_
  refine cW_region ?_
  refine wS_pure 2 [(7, .bool (false)), (6, .slice none 0 0)] (by kernel_rfl) ?_
  refine wS_end (by rfl) ?_
  refine eX_then ?_
  refine cW_ret ?_
  refine eX_then_ret ?_
  have hq : (some (([], false)) : Option ((List (Int × Int)) × (Bool))) = some _ := hm
  replace hq := someE hq
  subst hq
  refine eX_ret (vs := [.slice none 0 0, .bool (false)]) [.tmp 6, .tmp 7] (by rfl) ⟨by (show lkE _ _ _ = _); kernel_rfl, ⟨by (show lkE _ _ _ = _); kernel_rfl, trivial⟩⟩ ?_
  exact ⟨none, 0, [], rfl, Ow.nil _, lowNil, hB⟩
 ·have hm := condF hb1 hm
  refine cW_skip ?_
  refine eX_then ?_
  refine cW_seq ?_
  refine cW_region ?_
  refine wS_loadA (d := 17) (T := 29) (ad := ⟨b2, 0, none⟩) (vs := [.int .i64 (p1_0), .int .i64 (p1_1)]) (by kernel_rfl) vt29 (fun i u hu => box_cells F2 0 hu (by rfl)) ?_
  refine wS_loadA (d := 18) (T := 29) (ad := ⟨b3, 0, none⟩) (vs := [.int .i64 (p2_0), .int .i64 (p2_1)]) (by kernel_rfl) vt29 (fun i u hu => box_cells F3 0 hu (by rfl)) ?_
  obtain ⟨y2, hy2, hm⟩ := bindE hm
  refine wS_calls (d := 19) (f := 39) (vs := [.pointer (some ⟨b1, 0, none⟩), .agg #[.int .i64 (p1_0), .int .i64 (p1_1)], .agg #[.int .i64 (p2_0), .int .i64 (p2_1)]]) (by kernel_rfl) ent39 (c_spec_l04Cut_bimplMaze hy2 F0_0 F1) ?_
  rintro _ w5 ⟨A1, cap1, fp1, rfl, F4, G4, hc5⟩
  have D4 : Dj [b1] fp1 := Dj.of (lt1 F1.lt) G4
  have D5 : Dj [b2] fp1 := Dj.of (lt1 F2.lt) G4
  have D6 : Dj [b3] fp1 := Dj.of (lt1 F3.lt) G4
  replace F0_0 := F0_0.chg hc5 Dj.nil
  replace F1 := F1.chg hc5 notNil
  replace F2 := F2.chg hc5 notNil
  replace F3 := F3.chg hc5 notNil
  replace hB := hB.inS hc5 inNil
  replace G4 := low_le hZ G4
  replace hZ := Nat.le_trans hZ hc5.size
  refine ⟨.tuple #[.int .i64 (y2.1), .slice A1 (y2.2).length cap1], rfl, ?_⟩
  refine wS_pure 5 [(9, .slice A1 (y2.2).length cap1), (8, .int .i64 (y2.1)), (21, .slice A1 (y2.2).length cap1), (20, .int .i64 (y2.1)), (16, .tuple #[.int .i64 (y2.1), .slice A1 (y2.2).length cap1])] (by kernel_rfl) ?_
  refine wS_end (by rfl) ?_
  refine eX_then ?_
  refine cW_seq ?_
  refine cW_region ?_
  refine wS_pure 3 [(24, .int .i64 (wr (Int.tdiv (((y2.2).length : Int)) 2))), (23, .int .i64 (((y2.2).length : Int))), (22, .slice A1 (y2.2).length cap1)] (by kernel_rfl) ?_
  obtain ⟨_, hk1, hm⟩ := bindE hm
  replace hk1 := mkE hk1
  refine wS_make (enc := encB) (x0 := (false : Bool)) (d := 25) (t := 76) (T := 4) (k1 := .i64) (k2 := .i64) (m := wr (Int.tdiv (((y2.2).length : Int)) 2)) (by kernel_rfl) el76 encB_ok (by rfl) hk1.1 hk1.2 ?_
  intro b4 w6 G5 F5 hc6
  have D7 : Dj [b1] [b4] := Dj.of (lt1 F1.lt) (low1 G5)
  have D8 : Dj [b2] [b4] := Dj.of (lt1 F2.lt) (low1 G5)
  have D9 : Dj [b3] [b4] := Dj.of (lt1 F3.lt) (low1 G5)
  have D10 : Dj fp1 [b4] := Dj.of F4.low (low1 G5)
  replace F0_0 := F0_0.chg hc6 Dj.nil
  replace F1 := F1.chg hc6 notNil
  replace F2 := F2.chg hc6 notNil
  replace F3 := F3.chg hc6 notNil
  replace F4 := F4.chg hc6 Dj.nil
  replace hB := hB.inS hc6 inNil
  replace G5 := Nat.le_trans hZ G5
  replace G5 := low1 G5
  replace hZ := Nat.le_trans hZ hc6.size
  refine wS_pure 1 [(10, .slice (some ⟨b4, 0, none⟩) (List.replicate (Int.toNat (wr (Int.tdiv (((y2.2).length : Int)) 2))) ((false : Bool))).length (Int.toNat (wr (Int.tdiv (((y2.2).length : Int)) 2))))] (by kernel_rfl) ?_
  refine wS_end (by rfl) ?_
  refine eX_then ?_
  refine cW_prune [(3, .pointer (some ⟨b1, 0, none⟩)), (9, .slice A1 (y2.2).length cap1), (10, .slice (some ⟨b4, 0, none⟩) (List.replicate (Int.toNat (wr (Int.tdiv (((y2.2).length : Int)) 2))) ((false : Bool))).length (Int.toNat (wr (Int.tdiv (((y2.2).length : Int)) 2))))] (by kernel_rfl) (by kernel_rfl) (fun a1 => ?_)
  refine cW_seq ?_
  refine cW_seq ?_
  refine cW_region ?_
  refine wS_pure 1 [(11, .int .i64 (0))] (by kernel_rfl) ?_
  refine wS_end (by rfl) ?_
  refine eX_then ?_
  obtain ⟨r1, hr1, hm⟩ := bindE hm
  have hm1 := hm
  refine cW_cut (fun a' w' => ∃ l1 : List (Bool), l1 = r1 ∧ Fr 52 [(3, .pointer (some ⟨b1, 0, none⟩)), (10, .slice (some ⟨b4, 0, none⟩) (l1).length (Int.toNat (wr (Int.tdiv (((y2.2).length : Int)) 2))))] a' ∧ SlR 1 encI w' fp0_0 A0_0 l0_0 ∧ Cl w' b1 26 [.slice A0_0 (l0_0).length cap0_0] ∧ Ow 1 encB 4 w' [b4] (some ⟨b4, 0, none⟩) (Int.toNat (wr (Int.tdiv (((y2.2).length : Int)) 2))) l1 ∧ Chg [] w0 w' ∧ w0.heap.size ≤ w'.heap.size) ?_ ?_
  ·refine cW_block ?_
   refine cW_loop _ (fun (s1 : Int × (List (Bool))) a' w' => ∃ x1 : Int, ∃ l2 : List (Bool), (x1, l2) = s1 ∧ Fr 52 [(3, .pointer (some ⟨b1, 0, none⟩)), (9, .slice A1 (y2.2).length cap1), (10, .slice (some ⟨b4, 0, none⟩) (l2).length (Int.toNat (wr (Int.tdiv (((y2.2).length : Int)) 2)))), (11, .int .i64 (x1))] a' ∧ SlR 1 encI w' fp0_0 A0_0 l0_0 ∧ Cl w' b1 26 [.slice A0_0 (l0_0).length cap0_0] ∧ Ow 1 encI 2 w' fp1 A1 cap1 y2.2 ∧ Ow 1 encB 4 w' [b4] (some ⟨b4, 0, none⟩) (Int.toNat (wr (Int.tdiv (((y2.2).length : Int)) 2))) l2 ∧ Chg [] w0 w' ∧ w0.heap.size ≤ w'.heap.size) hr1 (fun hst => ⟨0, List.replicate (Int.toNat (wr (Int.tdiv (((y2.2).length : Int)) 2))) ((false : Bool)), rfl, Fr.of hst (by kernel_rfl), F0_0, F1, F4, F5, hB, hZ⟩) ?_
   rintro _ c1 a' w7 ⟨x1, l2, rfl, hF1, F6, F7, F8, F9, hB, hZ⟩ hx1
   refine Fr.goOn hF1 (by kernel_rfl) ?_
   have hm := hx1
   unfold m_spec_FewestBlocks_s1 at hm
   refine cW_seq ?_
   refine cW_seq ?_
   refine cW_region ?_
   refine wS_pure 4 [(29, .bool (decide (x1 < (((l2).length : Int))))), (28, .int .i64 (((l2).length : Int))), (27, .slice (some ⟨b4, 0, none⟩) (l2).length (Int.toNat (wr (Int.tdiv (((y2.2).length : Int)) 2)))), (26, .int .i64 (x1))] (by kernel_rfl) ?_
   refine wS_end (by rfl) ?_
   refine eX_then ?_
   refine cW_cond (t := decide (x1 < (((l2).length : Int)))) (by kernel_rfl) (fun hb2 => ?_) (fun hb2 => ?_)
   ·have hm := condT hb2 hm
    refine cW_skip ?_
    refine eX_then ?_
    refine cW_seq ?_
    refine cW_block ?_
    refine cW_region ?_
    refine wS_pure 5 [(36, .int .i64 (wr (2 * x1))), (35, .int .i64 (x1)), (34, .slice A1 (y2.2).length cap1), (33, .int .i64 (x1)), (32, .slice (some ⟨b4, 0, none⟩) (l2).length (Int.toNat (wr (Int.tdiv (((y2.2).length : Int)) 2))))] (by kernel_rfl) ?_
    obtain ⟨x2, hx2, hm⟩ := bindE hm
    refine wS_idx (d := 37) (T := 38) (A := A1) (n := (y2.2).length) (cap := cap1) (kd := .i64) (m := wr (2 * x1)) (by kernel_rfl) sl38 ((F8.sl encI_ok).is hx2) ?_
    refine wS_load1 (d := 38) (T := 2) (ad := (elA A1 1 (wr (2 * x1)) 0)) (v := .int .i64 (x2)) (by kernel_rfl) vt2 (Sl.cell (F8.sl encI_ok) hx2 0 (by rfl)) ?_
    refine wS_pure 2 [(40, .bool (decide (x2 ≥ 0))), (39, .bool (decide (x2 ≥ 0)))] (by kernel_rfl) ?_
    refine wS_bool (decide (x2 ≥ 0)) (fun hb3 => ?_) (fun hb3 => ?_)
    ·have hm := condT hb3 hm
     rewrite [hb3]
     refine wS_pure 4 [(44, .int .i64 (wr ((wr (2 * x1)) + 1))), (43, .int .i64 (wr (2 * x1))), (42, .int .i64 (x1)), (41, .slice A1 (y2.2).length cap1)] (by kernel_rfl) ?_
     obtain ⟨x3, hx3, hm⟩ := bindE hm
     refine wS_idx (d := 45) (T := 38) (A := A1) (n := (y2.2).length) (cap := cap1) (kd := .i64) (m := wr ((wr (2 * x1)) + 1)) (by kernel_rfl) sl38 ((F8.sl encI_ok).is hx3) ?_
     refine wS_load1 (d := 46) (T := 2) (ad := (elA A1 1 (wr ((wr (2 * x1)) + 1)) 0)) (v := .int .i64 (x3)) (by kernel_rfl) vt2 (Sl.cell (F8.sl encI_ok) hx3 0 (by rfl)) ?_
     refine wS_pure 2 [(48, .bool (decide (x3 < 0))), (47, .bool (decide (x3 < 0)))] (by kernel_rfl) ?_
     obtain ⟨x4, hx4, hm⟩ := bindE hm
     refine wS_idx (d := 49) (T := 76) (A := (some ⟨b4, 0, none⟩)) (n := (l2).length) (cap := (Int.toNat (wr (Int.tdiv (((y2.2).length : Int)) 2)))) (kd := .i64) (m := x1) (by kernel_rfl) sl76 ((F9.sl encB_ok).is hx4) ?_
     refine wS_storeEl (x := x4) (decide (x3 < 0)) (T := 4) (U := 4) (cap := (Int.toNat (wr (Int.tdiv (((y2.2).length : Int)) 2)))) (j := 0) (A := (some ⟨b4, 0, none⟩)) (v := .bool (decide (x3 < 0))) (vs := [.bool (decide (x3 < 0))]) (m := x1) (by kernel_rfl) (by rfl) sz4 (by rfl) encB_ok F9 hx4 (by simp only [List.length_cons, List.length_nil]; omega) (by rfl) ?_
     intro w8 F10 hc7
     replace F6 := F6.chg hc7 (Dj.of L0_0 G5)
     replace F7 := F7.chg hc7 (dj1 D7)
     replace F8 := F8.chg hc7 D10
     replace hB := hB.inS hc7 (inLow G5)
     replace hZ := Nat.le_trans hZ hc7.size
     clear F9
     rewrite [show (l2).length = (l2.set (Int.toNat x1) (decide (x3 < 0))).length from (List.length_set ..).symm]
     refine wS_end (by rfl) ?_
     refine eX_block ?_
     refine eX_then ?_
     refine cW_prune [(3, .pointer (some ⟨b1, 0, none⟩)), (9, .slice A1 (y2.2).length cap1), (10, .slice (some ⟨b4, 0, none⟩) (l2.set (Int.toNat x1) (decide (x3 < 0))).length (Int.toNat (wr (Int.tdiv (((y2.2).length : Int)) 2)))), (11, .int .i64 (x1))] (by kernel_rfl) (by kernel_rfl) (fun a2 => ?_)
     refine cW_region ?_
     refine wS_pure 3 [(11, .int .i64 (wr (x1 + 1))), (31, .int .i64 (wr (x1 + 1))), (30, .int .i64 (x1))] (by kernel_rfl) ?_
     refine wS_end (by rfl) ?_
     have hq : (some (Ctl.next ((wr (x1 + 1), l2.set (Int.toNat x1) (decide (x3 < 0))))) : Option (Ctl (Int × (List (Bool))) ((List (Bool))))) = some _ := hm
     replace hq := someE hq
     subst hq
     exact eX_next hx1 (fun hst => ⟨wr (x1 + 1), l2.set (Int.toNat x1) (decide (x3 < 0)), rfl, Fr.of hst (by kernel_rfl), F6, F7, F8, F10, hB, hZ⟩)
    ·have hm := condF hb3 hm
     rewrite [hb3]
     refine wS_pure 8 [(48, .bool (false)), (47, undef), (46, undef), (45, undef), (44, undef), (43, undef), (42, undef), (41, undef)] (by kernel_rfl) ?_
     obtain ⟨x5, hx5, hm⟩ := bindE hm
     refine wS_idx (d := 49) (T := 76) (A := (some ⟨b4, 0, none⟩)) (n := (l2).length) (cap := (Int.toNat (wr (Int.tdiv (((y2.2).length : Int)) 2)))) (kd := .i64) (m := x1) (by kernel_rfl) sl76 ((F9.sl encB_ok).is hx5) ?_
     refine wS_storeEl (x := x5) false (T := 4) (U := 4) (cap := (Int.toNat (wr (Int.tdiv (((y2.2).length : Int)) 2)))) (j := 0) (A := (some ⟨b4, 0, none⟩)) (v := .bool (false)) (vs := [.bool (false)]) (m := x1) (by kernel_rfl) (by rfl) sz4 (by rfl) encB_ok F9 hx5 (by simp only [List.length_cons, List.length_nil]; omega) (by rfl) ?_
     intro w9 F11 hc8
     replace F6 := F6.chg hc8 (Dj.of L0_0 G5)
     replace F7 := F7.chg hc8 (dj1 D7)
     replace F8 := F8.chg hc8 D10
     replace hB := hB.inS hc8 (inLow G5)
     replace hZ := Nat.le_trans hZ hc8.size
     clear F9
     rewrite [show (l2).length = (l2.set (Int.toNat x1) false).length from (List.length_set ..).symm]
     refine wS_end (by rfl) ?_
     refine eX_block ?_
     refine eX_then ?_
     refine cW_prune [(3, .pointer (some ⟨b1, 0, none⟩)), (9, .slice A1 (y2.2).length cap1), (10, .slice (some ⟨b4, 0, none⟩) (l2.set (Int.toNat x1) false).length (Int.toNat (wr (Int.tdiv (((y2.2).length : Int)) 2)))), (11, .int .i64 (x1))] (by kernel_rfl) (by kernel_rfl) (fun a3 => ?_)
     refine cW_region ?_
     refine wS_pure 3 [(11, .int .i64 (wr (x1 + 1))), (31, .int .i64 (wr (x1 + 1))), (30, .int .i64 (x1))] (by kernel_rfl) ?_
     refine wS_end (by rfl) ?_
     have hq : (some (Ctl.next ((wr (x1 + 1), l2.set (Int.toNat x1) false))) : Option (Ctl (Int × (List (Bool))) ((List (Bool))))) = some _ := hm
     replace hq := someE hq
     subst hq
     exact eX_next hx1 (fun hst => ⟨wr (x1 + 1), l2.set (Int.toNat x1) false, rfl, Fr.of hst (by kernel_rfl), F6, F7, F8, F11, hB, hZ⟩)
   ·have hm := condF hb2 hm
    refine cW_exit ?_
    refine eX_then_exit ?_
    have hq : (some (Ctl.out l2) : Option (Ctl (Int × (List (Bool))) ((List (Bool))))) = some _ := hm
    replace hq := someE hq
    subst hq
    refine eX_outX hx1 (fun hr2 => ?_)
    replace hr2 := hr2.symm
    subst hr2
    refine eX_block_hit ?_
    exact eX_J (fun hst => ⟨l2, rfl, Fr.of hst (by kernel_rfl), F6, F7, F9, hB, hZ⟩)
  ·rintro a' w10 ⟨l1, hJ, hF2, F12, F13, F14, hB, hZ⟩
   subst hJ
   refine Fr.goX hF2 (by kernel_rfl) ?_
   refine eX_then ?_
   refine cW_seq ?_
   refine cW_region ?_
   refine wS_pure 1 [(50, .slice (some ⟨b4, 0, none⟩) (l1).length (Int.toNat (wr (Int.tdiv (((y2.2).length : Int)) 2))))] (by kernel_rfl) ?_
   obtain ⟨y3, hy3, hm⟩ := bindE hm
   refine wS_calls (d := 51) (f := 42) (vs := [.pointer (some ⟨b1, 0, none⟩), .slice (some ⟨b4, 0, none⟩) (l1).length (Int.toNat (wr (Int.tdiv (((y2.2).length : Int)) 2)))]) (by kernel_rfl) ent42 (c_spec_l04Sorted_bimplMaze hy3 F12 F13 (F14.sl encB_ok)) ?_
   rintro _ w11 ⟨A2, cap2, fp2, rfl, F15, G6, hc9⟩
   have D11 : Dj [b1] fp2 := Dj.of (lt1 F13.lt) G6
   have D12 : Dj [b4] fp2 := Dj.of F14.low G6
   replace F12 := F12.chg hc9 Dj.nil
   replace F13 := F13.chg hc9 notNil
   replace F14 := F14.chg hc9 Dj.nil
   replace hB := hB.inS hc9 inNil
   replace G6 := low_le hZ G6
   replace hZ := Nat.le_trans hZ hc9.size
   refine ⟨.slice A2 (y3).length cap2, rfl, ?_⟩
   refine wS_pure 2 [(7, .bool (true)), (6, .slice A2 (y3).length cap2)] (by kernel_rfl) ?_
   refine wS_end (by rfl) ?_
   refine eX_then ?_
   refine cW_ret ?_
   have hq : (some ((y3, true)) : Option ((List (Int × Int)) × (Bool))) = some _ := hm
   replace hq := someE hq
   subst hq
   refine eX_ret (vs := [.slice A2 (y3).length cap2, .bool (true)]) [.tmp 6, .tmp 7] (by rfl) ⟨by (show lkE _ _ _ = _); kernel_rfl, ⟨by (show lkE _ _ _ = _); kernel_rfl, trivial⟩⟩ ?_
   exact ⟨A2, cap2, fp2, rfl, F15, G6, hB⟩

set_option maxRecDepth 100000 in
/-- laws.eqPoint -/
theorem c_laws_eqPoint {w0 : World} {p0_0 : Int} {p0_1 : Int} {p1_0 : Int} {p1_1 : Int} {r : (Bool)} (hm : m_laws_eqPoint p0_0 p0_1 p1_0 p1_1 = some r)  :
  Calls Try.prog 43 #[.agg #[.int .i64 (p0_0), .int .i64 (p0_1)], .agg #[.int .i64 (p1_0), .int .i64 (p1_1)]] w0 fun e w' => e = .returned (.bool (r)) ∧ Chg [] w0 w' := by
 have hB : Chg [] w0 w0 := Chg.refl _ _
 have hZ := Nat.le_refl w0.heap.size
 unfold m_laws_eqPoint at hm
 refine enterE (N := 15) Try.func43 (by rfl) Try.ntmps43 (by simp) [(0, .agg #[.int .i64 (p0_0), .int .i64 (p0_1)]), (1, .agg #[.int .i64 (p1_0), .int .i64 (p1_1)])] (by rfl) (by kernel_rfl) (fun a => ?_)
 refine cW_seq ?_
 refine cW_region ?_
 refine wS_box (d := 2) (T := 29) (x := .agg #[.int .i64 (p0_0), .int .i64 (p0_1)]) (by kernel_rfl) ?_
 intro b1 w1 G1 F1 hc1
 replace F1 : Cl w1 b1 29 [.int .i64 (p0_0), .int .i64 (p0_1)] := F1
 replace hB := hB.inS hc1 inNil
 replace G1 := Nat.le_trans hZ G1
 replace hZ := Nat.le_trans hZ hc1.size
 refine wS_box (d := 3) (T := 29) (x := .agg #[.int .i64 (p1_0), .int .i64 (p1_1)]) (by kernel_rfl) ?_
 intro b2 w2 G2 F2 hc2
 replace F2 : Cl w2 b2 29 [.int .i64 (p1_0), .int .i64 (p1_1)] := F2
 have D1 : Dj [b1] [b2] := Dj.of (lt1 F1.lt) (low1 G2)
 replace F1 := F1.chg hc2 notNil
 replace hB := hB.inS hc2 inNil
 replace G2 := Nat.le_trans hZ G2
 replace hZ := Nat.le_trans hZ hc2.size
 refine wS_pure 1 [(4, .bool (false))] (by kernel_rfl) ?_
 refine wS_end (by rfl) ?_
 refine eX_then ?_
 refine cW_seq ?_
 refine cW_seq ?_
 refine cW_region ?_
 refine wS_pure 1 [(5, .pointer (some ⟨b1, 0, none⟩))] (by kernel_rfl) ?_
 refine wS_load1 (d := 6) (T := 2) (ad := ⟨b1, 0, none⟩) (v := .int .i64 (p0_0)) (by kernel_rfl) vt2 ((F1).cell 0) ?_
 refine wS_pure 1 [(7, .pointer (some ⟨b2, 0, none⟩))] (by kernel_rfl) ?_
 refine wS_load1 (d := 8) (T := 2) (ad := ⟨b2, 0, none⟩) (v := .int .i64 (p1_0)) (by kernel_rfl) vt2 ((F2).cell 0) ?_
 refine wS_pure 1 [(9, .bool (p0_0 != p1_0))] (by kernel_rfl) ?_
 refine wS_end (by rfl) ?_
 refine eX_then ?_
 refine cW_cond (t := p0_0 != p1_0) (by kernel_rfl) (fun hb1 => ?_) (fun hb1 => ?_)
 ·have hm := condT hb1 hm
  refine cW_seq ?_
  refine cW_region ?_
  refine wS_pure 1 [(4, .bool (false))] (by kernel_rfl) ?_
  refine wS_end (by rfl) ?_
  refine eX_then ?_
  refine cW_ret ?_
  refine eX_then_ret ?_
  have hq : (some false : Option ((Bool))) = some _ := hm
  replace hq := someE hq
  subst hq
  refine eX_ret (vs := [.bool (false)]) [.tmp 4] (by rfl) ⟨by (show lkE _ _ _ = _); kernel_rfl, trivial⟩ ?_
  exact ⟨rfl, hB⟩
 ·have hm := condF hb1 hm
  refine cW_skip ?_
  refine eX_then ?_
  refine cW_seq ?_
  refine cW_seq ?_
  refine cW_region ?_
  refine wS_pure 1 [(10, .pointer (some ⟨b1, 1, none⟩))] (by kernel_rfl) ?_
  refine wS_load1 (d := 11) (T := 2) (ad := ⟨b1, 1, none⟩) (v := .int .i64 (p0_1)) (by kernel_rfl) vt2 ((F1).cell 1) ?_
  refine wS_pure 1 [(12, .pointer (some ⟨b2, 1, none⟩))] (by kernel_rfl) ?_
  refine wS_load1 (d := 13) (T := 2) (ad := ⟨b2, 1, none⟩) (v := .int .i64 (p1_1)) (by kernel_rfl) vt2 ((F2).cell 1) ?_
  refine wS_pure 1 [(14, .bool (p0_1 != p1_1))] (by kernel_rfl) ?_
  refine wS_end (by rfl) ?_
  refine eX_then ?_
  refine cW_cond (t := p0_1 != p1_1) (by kernel_rfl) (fun hb2 => ?_) (fun hb2 => ?_)
  ·have hm := condT hb2 hm
   refine cW_seq ?_
   refine cW_region ?_
   refine wS_pure 1 [(4, .bool (false))] (by kernel_rfl) ?_
   refine wS_end (by rfl) ?_
   refine eX_then ?_
   refine cW_ret ?_
   refine eX_then_ret ?_
   have hq : (some false : Option ((Bool))) = some _ := hm
   replace hq := someE hq
   subst hq
   refine eX_ret (vs := [.bool (false)]) [.tmp 4] (by rfl) ⟨by (show lkE _ _ _ = _); kernel_rfl, trivial⟩ ?_
   exact ⟨rfl, hB⟩
  ·have hm := condF hb2 hm
   refine cW_skip ?_
   refine eX_then ?_
   refine cW_seq ?_
   refine cW_region ?_
   refine wS_pure 1 [(4, .bool (true))] (by kernel_rfl) ?_
   refine wS_end (by rfl) ?_
   refine eX_then ?_
   refine cW_ret ?_
   have hq : (some true : Option ((Bool))) = some _ := hm
   replace hq := someE hq
   subst hq
   refine eX_ret (vs := [.bool (true)]) [.tmp 4] (by rfl) ⟨by (show lkE _ _ _ = _); kernel_rfl, trivial⟩ ?_
   exact ⟨rfl, hB⟩

set_option maxRecDepth 100000 in
/-- laws.eqPointS -/
theorem c_laws_eqPointS {w0 : World} {l0 : List (Int × Int)} {A0 : Option Addr} {cap0 : Nat} {fp0 : List Nat} {l1 : List (Int × Int)} {A1 : Option Addr} {cap1 : Nat} {fp1 : List Nat} {r : (Bool)} (hm : m_laws_eqPointS l0 l1 = some r) (F0 : Sl 2 encII w0 fp0 A0 l0) (F1 : Sl 2 encII w0 fp1 A1 l1) :
  Calls Try.prog 20 #[.slice A0 (l0).length cap0, .slice A1 (l1).length cap1] w0 fun e w' => e = .returned (.bool (r)) ∧ Chg [] w0 w' := by
 have L0 := F0.low
 have L1 := F1.low
 have hB : Chg [] w0 w0 := Chg.refl _ _
 have hZ := Nat.le_refl w0.heap.size
 unfold m_laws_eqPointS at hm
 refine enterE (N := 27) Try.func20 (by rfl) Try.ntmps20 (by simp) [(0, .slice A0 (l0).length cap0), (1, .slice A1 (l1).length cap1)] (by rfl) (by kernel_rfl) (fun a => ?_)
 refine cW_seq ?_
 refine cW_region ?_
 refine wS_pure 1 [(4, .bool (false))] (by kernel_rfl) ?_
 refine wS_end (by rfl) ?_
 refine eX_then ?_
 refine cW_seq ?_
 refine cW_seq ?_
 refine cW_region ?_
 refine wS_pure 5 [(10, .bool ((((l0).length : Int)) != (((l1).length : Int)))), (9, .int .i64 (((l1).length : Int))), (8, .slice A1 (l1).length cap1), (7, .int .i64 (((l0).length : Int))), (6, .slice A0 (l0).length cap0)] (by kernel_rfl) ?_
 refine wS_end (by rfl) ?_
 refine eX_then ?_
 refine cW_cond (t := (((l0).length : Int)) != (((l1).length : Int))) (by kernel_rfl) (fun hb1 => ?_) (fun hb1 => ?_)
 ·have hm := condT hb1 hm
  refine cW_seq ?_
  refine cW_region ?_
  refine wS_pure 1 [(4, .bool (false))] (by kernel_rfl) ?_
  refine wS_end (by rfl) ?_
  refine eX_then ?_
  refine cW_ret ?_
  refine eX_then_ret ?_
  have hq : (some false : Option ((Bool))) = some _ := hm
  replace hq := someE hq
  subst hq
  refine eX_ret (vs := [.bool (false)]) [.tmp 4] (by rfl) ⟨by (show lkE _ _ _ = _); kernel_rfl, trivial⟩ ?_
  exact ⟨rfl, hB⟩
 ·have hm := condF hb1 hm
  refine cW_skip ?_
  refine eX_then ?_
  refine cW_seq ?_
  refine cW_seq ?_
  refine cW_region ?_
  refine wS_pure 1 [(5, .int .i64 (0))] (by kernel_rfl) ?_
  refine wS_end (by rfl) ?_
  refine eX_then ?_
  obtain ⟨r1, hr1, hm⟩ := bindE hm
  have hm1 := hm
  refine cW_cut (fun a' w' => Sum.inl (()) = r1 ∧ Fr 27 [] a' ∧ Chg [] w0 w' ∧ w0.heap.size ≤ w'.heap.size) ?_ ?_
  ·refine cW_block ?_
   refine cW_loop _ (fun (s1 : Int) a' w' => ∃ x1 : Int, x1 = s1 ∧ Fr 27 [(0, .slice A0 (l0).length cap0), (1, .slice A1 (l1).length cap1), (5, .int .i64 (x1))] a' ∧ Sl 2 encII w' fp0 A0 l0 ∧ Sl 2 encII w' fp1 A1 l1 ∧ Chg [] w0 w' ∧ w0.heap.size ≤ w'.heap.size) hr1 (fun hst => ⟨0, rfl, Fr.of hst (by kernel_rfl), F0, F1, hB, hZ⟩) ?_
   rintro _ c1 a' w1 ⟨x1, rfl, hF1, F2, F3, hB, hZ⟩ hx1
   refine Fr.goOn hF1 (by kernel_rfl) ?_
   have hm := hx1
   unfold m_laws_eqPointS_s1 at hm
   refine cW_seq ?_
   refine cW_seq ?_
   refine cW_region ?_
   refine wS_pure 4 [(14, .bool (decide (x1 < (((l0).length : Int))))), (13, .int .i64 (((l0).length : Int))), (12, .slice A0 (l0).length cap0), (11, .int .i64 (x1))] (by kernel_rfl) ?_
   refine wS_end (by rfl) ?_
   refine eX_then ?_
   refine cW_cond (t := decide (x1 < (((l0).length : Int)))) (by kernel_rfl) (fun hb2 => ?_) (fun hb2 => ?_)
   ·have hm := condT hb2 hm
    refine cW_skip ?_
    refine eX_then ?_
    refine cW_seq ?_
    refine cW_block ?_
    refine cW_seq ?_
    refine cW_drawnTail [] 8 (by kernel_rfl) (by kernel_rfl) (fun w2 hc1 => ?_)
    replace F2 := F2.chg hc1 Dj.nil
    replace F3 := F3.chg hc1 Dj.nil
    replace hB := hB.inS hc1 inNil
    replace hZ := Nat.le_trans hZ hc1.size
    have hS := Chg.refl [] w2
    have Z1 := F2
    have Z2 := F3
    refine wH_take [0, 1] [1, 0] [(18, .int .i64 (x1)), (17, .slice A0 (l0).length cap0)] (by kernel_rfl) (qT (qT (qB (qT (qL (qB (qT (qT qZ)))))))) (by kernel_rfl) ?_
    obtain ⟨x2, hx2, hm⟩ := bindE hm
    refine wH_idx (i := 2) (d := 19) (T := 31) (A := A0) (n := (l0).length) (cap := cap0) (kd := .i64) (m := x1) (by kernel_rfl) (qT (qT (qB (qT (qL (qB (qT (qT qZ)))))))) (by kernel_rfl) (by kernel_rfl) sl31 (F2.is hx2) ?_
    refine wH_loadA (i := 3) (d := 20) (T := 29) (ad := (elA A0 2 (x1) 0)) (vs := [.int .i64 (x2.1), .int .i64 (x2.2)]) (by kernel_rfl) (qT (qT (qB (qT (qL (qB (qT (qT qZ)))))))) (by kernel_rfl) (by kernel_rfl) vt29 (fun W hW i u hu => Sl.cells_at (Z1.chg hW Dj.nil) hx2 0 hu (by rfl)) ?_
    refine wH_take [4, 5] [5, 4, 3, 2, 1, 0] [(22, .int .i64 (x1)), (21, .slice A1 (l1).length cap1)] (by kernel_rfl) (qT (qT (qB (qT (qL (qB (qT (qT qZ)))))))) (by kernel_rfl) ?_
    obtain ⟨x3, hx3, hm⟩ := bindE hm
    refine wH_idx (i := 6) (d := 23) (T := 31) (A := A1) (n := (l1).length) (cap := cap1) (kd := .i64) (m := x1) (by kernel_rfl) (qT (qT (qB (qT (qL (qB (qT (qT qZ)))))))) (by kernel_rfl) (by kernel_rfl) sl31 (F3.is hx3) ?_
    refine wH_loadA (i := 7) (d := 24) (T := 29) (ad := (elA A1 2 (x1) 0)) (vs := [.int .i64 (x3.1), .int .i64 (x3.2)]) (by kernel_rfl) (qT (qT (qB (qT (qL (qB (qT (qT qZ)))))))) (by kernel_rfl) (by kernel_rfl) vt29 (fun W hW i u hu => Sl.cells_at (Z2.chg hW Dj.nil) hx3 0 hu (by rfl)) ?_
    refine wH_done (by kernel_rfl) ?_
    refine eX_tail ?_
    obtain ⟨y1, hy1, hm⟩ := bindE hm
    refine wS_calls (d := 25) (f := 43) (vs := [.agg #[.int .i64 (x2.1), .int .i64 (x2.2)], .agg #[.int .i64 (x3.1), .int .i64 (x3.2)]]) (by kernel_rfl) ent43 (c_laws_eqPoint hy1) ?_
    rintro _ w3 ⟨rfl, hc2⟩
    replace F2 := F2.chg hc2 Dj.nil
    replace F3 := F3.chg hc2 Dj.nil
    replace hB := hB.inS hc2 inNil
    replace hZ := Nat.le_trans hZ hc2.size
    refine ⟨.bool (y1), rfl, ?_⟩
    refine wS_pure 1 [(26, .bool (!y1))] (by kernel_rfl) ?_
    refine wS_end (by rfl) ?_
    refine eX_then ?_
    refine cW_cond (t := !y1) (by kernel_rfl) (fun hb3 => ?_) (fun hb3 => ?_)
    ·have hm := condT hb3 hm
     refine cW_seq ?_
     refine cW_region ?_
     refine wS_pure 1 [(4, .bool (false))] (by kernel_rfl) ?_
     refine wS_end (by rfl) ?_
     refine eX_then ?_
     refine cW_ret ?_
     refine eX_block_ret ?_
     refine eX_then_ret ?_
     have hq : (some (Ctl.out (Sum.inr false)) : Option (Ctl (Int) (Sum (Unit) ((Bool))))) = some _ := hm
     replace hq := someE hq
     subst hq
     refine eX_outR hx1 (fun hr => ?_)
     subst hr
     refine eX_block_ret ?_
     refine eX_then_ret ?_
     refine eX_then_ret ?_
     have hq : (some false : Option ((Bool))) = some _ := hm1
     replace hq := someE hq
     subst hq
     refine eX_ret (vs := [.bool (false)]) [.tmp 4] (by rfl) ⟨by (show lkE _ _ _ = _); kernel_rfl, trivial⟩ ?_
     exact ⟨rfl, hB⟩
    ·have hm := condF hb3 hm
     refine cW_skip ?_
     refine eX_block ?_
     refine eX_then ?_
     refine cW_region ?_
     refine wS_pure 3 [(5, .int .i64 (wr (x1 + 1))), (16, .int .i64 (wr (x1 + 1))), (15, .int .i64 (x1))] (by kernel_rfl) ?_
     refine wS_end (by rfl) ?_
     have hq : (some (Ctl.next (wr (x1 + 1))) : Option (Ctl (Int) (Sum (Unit) ((Bool))))) = some _ := hm
     replace hq := someE hq
     subst hq
     exact eX_next hx1 (fun hst => ⟨wr (x1 + 1), rfl, Fr.of hst (by kernel_rfl), F2, F3, hB, hZ⟩)
   ·have hm := condF hb2 hm
    refine cW_exit ?_
    refine eX_then_exit ?_
    have hq : (some (Ctl.out (Sum.inl (()))) : Option (Ctl (Int) (Sum (Unit) ((Bool))))) = some _ := hm
    replace hq := someE hq
    subst hq
    refine eX_outX hx1 (fun hr2 => ?_)
    replace hr2 := hr2.symm
    subst hr2
    refine eX_block_hit ?_
    exact eX_J (fun hst => ⟨rfl, Fr.of hst (by kernel_rfl), hB, hZ⟩)
  ·rintro a' w4 ⟨hJ, hF2, hB, hZ⟩
   subst hJ
   refine Fr.goX hF2 (by kernel_rfl) ?_
   refine eX_then ?_
   refine cW_seq ?_
   refine cW_region ?_
   refine wS_pure 1 [(4, .bool (true))] (by kernel_rfl) ?_
   refine wS_end (by rfl) ?_
   refine eX_then ?_
   refine cW_ret ?_
   have hq : (some true : Option ((Bool))) = some _ := hm
   replace hq := someE hq
   subst hq
   refine eX_ret (vs := [.bool (true)]) [.tmp 4] (by rfl) ⟨by (show lkE _ _ _ = _); kernel_rfl, trivial⟩ ?_
   exact ⟨rfl, hB⟩

set_option maxRecDepth 100000 in
/-- laws.markInt64S -/
theorem c_laws_markInt64S {w0 : World} {l0 : List (Int)} {A0 : Option Addr} {cap0 : Nat} {fp0 : List Nat} {p1 : Int} {r : (Int) × (List (Int))} (hm : m_laws_markInt64S l0 p1 = some r) (F0 : Ow 1 encI 2 w0 fp0 A0 cap0 l0) :
  Calls Try.prog 65 #[.slice A0 (l0).length cap0, .int .i64 (p1)] w0 fun e w' => e = .returned (.int .i64 (r.1)) ∧ Ow 1 encI 2 w' fp0 A0 cap0 r.2 ∧ (r.2).length = (l0).length ∧ Chg (fp0 ++ []) w0 w' := by
 have L0 := F0.low
 have hB : Chg (fp0 ++ []) w0 w0 := Chg.refl _ _
 have hZ := Nat.le_refl w0.heap.size
 unfold m_laws_markInt64S at hm
 refine enterE (N := 19) Try.func65 (by rfl) Try.ntmps65 (by simp) [(0, .slice A0 (l0).length cap0), (1, .int .i64 (p1))] (by rfl) (by kernel_rfl) (fun a => ?_)
 refine cW_seq ?_
 refine cW_region ?_
 refine wS_pure 1 [(4, .int .i64 (0))] (by kernel_rfl) ?_
 refine wS_end (by rfl) ?_
 refine eX_then ?_
 refine cW_seq ?_
 refine cW_seq ?_
 refine cW_region ?_
 refine wS_pure 1 [(5, .int .i64 (0))] (by kernel_rfl) ?_
 refine wS_end (by rfl) ?_
 refine eX_then ?_
 obtain ⟨r1, hr1, hm⟩ := bindE hm
 have hm1 := hm
 refine cW_cut (fun a' w' => ∃ x1 : Int, ∃ l1 : List (Int), (x1, l1) = r1 ∧ Fr 19 [(1, .int .i64 (x1))] a' ∧ Ow 1 encI 2 w' fp0 A0 cap0 l1 ∧ (l1).length = (l0).length ∧ Chg (fp0 ++ []) w0 w' ∧ w0.heap.size ≤ w'.heap.size) ?_ ?_
 ·refine cW_block ?_
  refine cW_loop _ (fun (s1 : Int × Int × (List (Int))) a' w' => ∃ x2 : Int, ∃ x3 : Int, ∃ l2 : List (Int), (x2, x3, l2) = s1 ∧ Fr 19 [(0, .slice A0 (l2).length cap0), (1, .int .i64 (x2)), (5, .int .i64 (x3))] a' ∧ Ow 1 encI 2 w' fp0 A0 cap0 l2 ∧ (l2).length = (l0).length ∧ Chg (fp0 ++ []) w0 w' ∧ w0.heap.size ≤ w'.heap.size) hr1 (fun hst => ⟨p1, 0, l0, rfl, Fr.of hst (by kernel_rfl), F0, (Eq.refl (l0).length), hB, hZ⟩) ?_
  rintro _ c1 a' w1 ⟨x2, x3, l2, rfl, hF1, F1, hl1, hB, hZ⟩ hx1
  refine Fr.goOn hF1 (by kernel_rfl) ?_
  have hm := hx1
  unfold m_laws_markInt64S_s1 at hm
  refine cW_seq ?_
  refine cW_seq ?_
  refine cW_region ?_
  refine wS_pure 4 [(9, .bool (decide (x3 < (((l2).length : Int))))), (8, .int .i64 (((l2).length : Int))), (7, .slice A0 (l2).length cap0), (6, .int .i64 (x3))] (by kernel_rfl) ?_
  refine wS_end (by rfl) ?_
  refine eX_then ?_
  refine cW_cond (t := decide (x3 < (((l2).length : Int)))) (by kernel_rfl) (fun hb1 => ?_) (fun hb1 => ?_)
  ·have hm := condT hb1 hm
   refine cW_skip ?_
   refine eX_then ?_
   refine cW_seq ?_
   refine cW_block ?_
   refine cW_seq ?_
   refine cW_region ?_
   refine wS_pure 3 [(14, .int .i64 (x2)), (13, .int .i64 (x3)), (12, .slice A0 (l2).length cap0)] (by kernel_rfl) ?_
   obtain ⟨x4, hx2, hm⟩ := bindE hm
   refine wS_idx (d := 15) (T := 38) (A := A0) (n := (l2).length) (cap := cap0) (kd := .i64) (m := x3) (by kernel_rfl) sl38 ((F1.sl encI_ok).is hx2) ?_
   refine wS_storeEl (x := x4) x2 (T := 2) (U := 2) (cap := cap0) (j := 0) (A := A0) (v := .int .i64 (x2)) (vs := [.int .i64 (x2)]) (m := x3) (by kernel_rfl) (by rfl) sz2 (by rfl) encI_ok F1 hx2 (by simp only [List.length_cons, List.length_nil]; omega) (by rfl) ?_
   intro w2 F2 hc1
   replace hB := hB.inS hc1 (inMem (fun x hx => (List.mem_append_left _ hx)))
   replace hZ := Nat.le_trans hZ hc1.size
   clear F1
   have hl2 := (show (l2.set (Int.toNat x3) x2).length = (l2).length from List.length_set ..).trans hl1
   rewrite [show (l2).length = (l2.set (Int.toNat x3) x2).length from (List.length_set ..).symm]
   refine wS_end (by rfl) ?_
   refine eX_then ?_
   refine cW_region ?_
   refine wS_pure 3 [(1, .int .i64 (wr (x2 + 1))), (17, .int .i64 (wr (x2 + 1))), (16, .int .i64 (x2))] (by kernel_rfl) ?_
   refine wS_end (by rfl) ?_
   refine eX_block ?_
   refine eX_then ?_
   refine cW_region ?_
   refine wS_pure 3 [(5, .int .i64 (wr (x3 + 1))), (11, .int .i64 (wr (x3 + 1))), (10, .int .i64 (x3))] (by kernel_rfl) ?_
   refine wS_end (by rfl) ?_
   have hq : (some (Ctl.next ((wr (x2 + 1), wr (x3 + 1), l2.set (Int.toNat x3) x2))) : Option (Ctl (Int × Int × (List (Int))) (Int × (List (Int))))) = some _ := hm
   replace hq := someE hq
   subst hq
   exact eX_next hx1 (fun hst => ⟨wr (x2 + 1), wr (x3 + 1), l2.set (Int.toNat x3) x2, rfl, Fr.of hst (by kernel_rfl), F2, hl2, hB, hZ⟩)
  ·have hm := condF hb1 hm
   refine cW_exit ?_
   refine eX_then_exit ?_
   have hq : (some (Ctl.out ((x2, l2))) : Option (Ctl (Int × Int × (List (Int))) (Int × (List (Int))))) = some _ := hm
   replace hq := someE hq
   subst hq
   refine eX_outX hx1 (fun hr2 => ?_)
   replace hr2 := hr2.symm
   subst hr2
   refine eX_block_hit ?_
   exact eX_J (fun hst => ⟨x2, l2, rfl, Fr.of hst (by kernel_rfl), F1, hl1, hB, hZ⟩)
 ·rintro a' w3 ⟨x1, l1, hJ, hF2, F3, hl3, hB, hZ⟩
  subst hJ
  refine Fr.goX hF2 (by kernel_rfl) ?_
  refine eX_then ?_
  refine cW_seq ?_
  refine cW_region ?_
  refine wS_pure 2 [(4, .int .i64 (x1)), (18, .int .i64 (x1))] (by kernel_rfl) ?_
  refine wS_end (by rfl) ?_
  refine eX_then ?_
  refine cW_ret ?_
  have hq : (some ((x1, l1)) : Option ((Int) × (List (Int)))) = some _ := hm
  replace hq := someE hq
  subst hq
  refine eX_ret (vs := [.int .i64 (x1)]) [.tmp 4] (by rfl) ⟨by (show lkE _ _ _ = _); kernel_rfl, trivial⟩ ?_
  exact ⟨rfl, F3, (by first | exact hl3 | rfl), hB⟩

set_option maxRecDepth 100000 in
/-- laws.markInt64SS -/
theorem c_laws_markInt64SS {w0 : World} {l0 : List (List (Int))} {A0 : Option Addr} {cap0 : Nat} {fp0 fr0 : List Nat} {p1 : Int} {r : (Int) × (List (List (Int)))} (hm : m_laws_markInt64SS l0 p1 = some r) (F0 : OwR 1 encI 38 2 w0 fp0 fr0 A0 cap0 l0) :
  Calls Try.prog 44 #[.slice A0 (l0).length cap0, .int .i64 (p1)] w0 fun e w' => e = .returned (.int .i64 (r.1)) ∧ OwR 1 encI 38 2 w' fp0 fr0 A0 cap0 r.2 ∧ (r.2).length = (l0).length ∧ Chg ((fp0 ++ fr0) ++ []) w0 w' := by
 have L0 := F0.low
 have hB : Chg ((fp0 ++ fr0) ++ []) w0 w0 := Chg.refl _ _
 have hZ := Nat.le_refl w0.heap.size
 unfold m_laws_markInt64SS at hm
 refine enterE (N := 19) Try.func44 (by rfl) Try.ntmps44 (by simp) [(0, .slice A0 (l0).length cap0), (1, .int .i64 (p1))] (by rfl) (by kernel_rfl) (fun a => ?_)
 refine cW_seq ?_
 refine cW_region ?_
 refine wS_pure 1 [(4, .int .i64 (0))] (by kernel_rfl) ?_
 refine wS_end (by rfl) ?_
 refine eX_then ?_
 refine cW_seq ?_
 refine cW_seq ?_
 refine cW_region ?_
 refine wS_pure 1 [(5, .int .i64 (0))] (by kernel_rfl) ?_
 refine wS_end (by rfl) ?_
 refine eX_then ?_
 obtain ⟨r1, hr1, hm⟩ := bindE hm
 have hm1 := hm
 refine cW_cut (fun a' w' => ∃ x1 : Int, ∃ l1 : List (List (Int)), (x1, l1) = r1 ∧ Fr 19 [(1, .int .i64 (x1))] a' ∧ OwR 1 encI 38 2 w' fp0 fr0 A0 cap0 l1 ∧ (l1).length = (l0).length ∧ Chg ((fp0 ++ fr0) ++ []) w0 w' ∧ w0.heap.size ≤ w'.heap.size) ?_ ?_
 ·refine cW_block ?_
  refine cW_loop _ (fun (s1 : Int × Int × (List (List (Int)))) a' w' => ∃ x2 : Int, ∃ x3 : Int, ∃ l2 : List (List (Int)), (x2, x3, l2) = s1 ∧ Fr 19 [(0, .slice A0 (l2).length cap0), (1, .int .i64 (x2)), (5, .int .i64 (x3))] a' ∧ OwR 1 encI 38 2 w' fp0 fr0 A0 cap0 l2 ∧ (l2).length = (l0).length ∧ Chg ((fp0 ++ fr0) ++ []) w0 w' ∧ w0.heap.size ≤ w'.heap.size) hr1 (fun hst => ⟨p1, 0, l0, rfl, Fr.of hst (by kernel_rfl), F0, (Eq.refl (l0).length), hB, hZ⟩) ?_
  rintro _ c1 a' w1 ⟨x2, x3, l2, rfl, hF1, F1, hl1, hB, hZ⟩ hx1
  refine Fr.goOn hF1 (by kernel_rfl) ?_
  have hm := hx1
  unfold m_laws_markInt64SS_s1 at hm
  refine cW_seq ?_
  refine cW_seq ?_
  refine cW_region ?_
  refine wS_pure 4 [(9, .bool (decide (x3 < (((l2).length : Int))))), (8, .int .i64 (((l2).length : Int))), (7, .slice A0 (l2).length cap0), (6, .int .i64 (x3))] (by kernel_rfl) ?_
  refine wS_end (by rfl) ?_
  refine eX_then ?_
  refine cW_cond (t := decide (x3 < (((l2).length : Int)))) (by kernel_rfl) (fun hb1 => ?_) (fun hb1 => ?_)
  ·have hm := condT hb1 hm
   refine cW_skip ?_
   refine eX_then ?_
   refine cW_seq ?_
   refine cW_block ?_
   refine cW_region ?_
   refine wS_pure 2 [(13, .int .i64 (x3)), (12, .slice A0 (l2).length cap0)] (by kernel_rfl) ?_
   obtain ⟨x4, hx2, hm⟩ := bindE hm
   refine wS_idx (d := 14) (T := 24) (A := A0) (n := (l2).length) (cap := cap0) (kd := .i64) (m := x3) (by kernel_rfl) sl24 ((F1.slr encI_ok).is hx2) ?_
   obtain ⟨A1, cap1, fp1, hc1, hsub1, F2, hcl1⟩ := OwR.lend F1 hx2
   have Dm1 := (F1.dj).symm
   refine wS_load1 (d := 15) (T := 38) (ad := (elA A0 1 (x3) 0)) (v := .slice A1 (x4).length cap1) (by kernel_rfl) vt38 hc1 ?_
   refine wS_pure 1 [(16, .int .i64 (x2))] (by kernel_rfl) ?_
   obtain ⟨y1, hy1, hm⟩ := bindE hm
   refine wS_calls (d := 17) (f := 65) (vs := [.slice A1 (x4).length cap1, .int .i64 (x2)]) (by kernel_rfl) ent65 (c_laws_markInt64S hy1 F2) ?_
   rintro _ w2 ⟨rfl, F3, hl2, hc2⟩
   have F4 := hcl1 _ _ (hc2.more (fun x hx => by simpa using hx)) F3 hl2
   have hc3 := hc2.more (S' := (fp0 ++ fr0) ++ []) (fun x hx => List.mem_append_left _ (hsub1 x (by simpa using hx)))
   have hl3 := (show (l2.set (Int.toNat x3) y1.2).length = (l2).length from List.length_set ..).trans hl1
   clear F1
   replace hB := hB.inS hc3 (inApp (inMem (fun x hx => (List.mem_append_left _ hx))) inNil)
   replace hZ := Nat.le_trans hZ hc3.size
   refine ⟨.int .i64 (y1.1), rfl, ?_⟩
   rewrite [(show (l2).length = (l2.set (Int.toNat x3) y1.2).length from (List.length_set ..).symm)]
   refine wS_pure 1 [(1, .int .i64 (y1.1))] (by kernel_rfl) ?_
   refine wS_end (by rfl) ?_
   refine eX_block ?_
   refine eX_then ?_
   refine cW_region ?_
   refine wS_pure 3 [(5, .int .i64 (wr (x3 + 1))), (11, .int .i64 (wr (x3 + 1))), (10, .int .i64 (x3))] (by kernel_rfl) ?_
   refine wS_end (by rfl) ?_
   have hq : (some (Ctl.next ((y1.1, wr (x3 + 1), l2.set (Int.toNat x3) y1.2))) : Option (Ctl (Int × Int × (List (List (Int)))) (Int × (List (List (Int)))))) = some _ := hm
   replace hq := someE hq
   subst hq
   exact eX_next hx1 (fun hst => ⟨y1.1, wr (x3 + 1), l2.set (Int.toNat x3) y1.2, rfl, Fr.of hst (by kernel_rfl), F4, hl3, hB, hZ⟩)
  ·have hm := condF hb1 hm
   refine cW_exit ?_
   refine eX_then_exit ?_
   have hq : (some (Ctl.out ((x2, l2))) : Option (Ctl (Int × Int × (List (List (Int)))) (Int × (List (List (Int)))))) = some _ := hm
   replace hq := someE hq
   subst hq
   refine eX_outX hx1 (fun hr2 => ?_)
   replace hr2 := hr2.symm
   subst hr2
   refine eX_block_hit ?_
   exact eX_J (fun hst => ⟨x2, l2, rfl, Fr.of hst (by kernel_rfl), F1, hl1, hB, hZ⟩)
 ·rintro a' w3 ⟨x1, l1, hJ, hF2, F5, hl4, hB, hZ⟩
  subst hJ
  refine Fr.goX hF2 (by kernel_rfl) ?_
  refine eX_then ?_
  refine cW_seq ?_
  refine cW_region ?_
  refine wS_pure 2 [(4, .int .i64 (x1)), (18, .int .i64 (x1))] (by kernel_rfl) ?_
  refine wS_end (by rfl) ?_
  refine eX_then ?_
  refine cW_ret ?_
  have hq : (some ((x1, l1)) : Option ((Int) × (List (List (Int))))) = some _ := hm
  replace hq := someE hq
  subst hq
  refine eX_ret (vs := [.int .i64 (x1)]) [.tmp 4] (by rfl) ⟨by (show lkE _ _ _ = _); kernel_rfl, trivial⟩ ?_
  exact ⟨rfl, F5, (by first | exact hl4 | rfl), hB⟩

set_option maxRecDepth 100000 in
/-- laws.markMaze -/
theorem c_laws_markMaze {w0 : World} {l0_0 : List (List (Int))} {A0_0 : Option Addr} {cap0_0 : Nat} {fp0_0 fr0_0 : List Nat} {p1 : Int} {r : (Int) × (List (List (Int)))} (hm : m_laws_markMaze l0_0 p1 = some r) (F0_0 : OwR 1 encI 38 2 w0 fp0_0 fr0_0 A0_0 cap0_0 l0_0) :
  Calls Try.prog 21 #[.agg #[.slice A0_0 (l0_0).length cap0_0], .int .i64 (p1)] w0 fun e w' => e = .returned (.int .i64 (r.1)) ∧ OwR 1 encI 38 2 w' fp0_0 fr0_0 A0_0 cap0_0 r.2 ∧ (r.2).length = (l0_0).length ∧ Chg ((fp0_0 ++ fr0_0) ++ []) w0 w' := by
 have L0_0 := F0_0.low
 have hB : Chg ((fp0_0 ++ fr0_0) ++ []) w0 w0 := Chg.refl _ _
 have hZ := Nat.le_refl w0.heap.size
 unfold m_laws_markMaze at hm
 refine enterE (N := 10) Try.func21 (by rfl) Try.ntmps21 (by simp) [(0, .agg #[.slice A0_0 (l0_0).length cap0_0]), (1, .int .i64 (p1))] (by rfl) (by kernel_rfl) (fun a => ?_)
 refine cW_seq ?_
 refine cW_region ?_
 refine wS_box (d := 2) (T := 26) (x := .agg #[.slice A0_0 (l0_0).length cap0_0]) (by kernel_rfl) ?_
 intro b1 w1 G1 F1 hc1
 replace F1 : Cl w1 b1 26 [.slice A0_0 (l0_0).length cap0_0] := F1
 replace F0_0 := F0_0.chg hc1 Dj.nil
 replace hB := hB.inS hc1 inNil
 replace G1 := Nat.le_trans hZ G1
 replace hZ := Nat.le_trans hZ hc1.size
 refine wS_pure 1 [(4, .int .i64 (0))] (by kernel_rfl) ?_
 refine wS_end (by rfl) ?_
 refine eX_then ?_
 refine cW_seq ?_
 refine cW_region ?_
 refine wS_pure 1 [(5, .pointer (some ⟨b1, 0, none⟩))] (by kernel_rfl) ?_
 refine wS_load1 (d := 6) (T := 24) (ad := ⟨b1, 0, none⟩) (v := .slice A0_0 (l0_0).length cap0_0) (by kernel_rfl) vt24 ((F1).cell 0) ?_
 refine wS_pure 1 [(7, .int .i64 (p1))] (by kernel_rfl) ?_
 obtain ⟨y1, hy1, hm⟩ := bindE hm
 refine wS_calls (d := 8) (f := 44) (vs := [.slice A0_0 (l0_0).length cap0_0, .int .i64 (p1)]) (by kernel_rfl) ent44 (c_laws_markInt64SS hy1 F0_0) ?_
 rintro _ w2 ⟨rfl, F2, hl1, hc2⟩
 replace F1 := F1.chg hc2 (dj1 (Dj.app (Dj.of L0_0 (low1 G1)).symm Dj.nil))
 replace hB := hB.inS hc2 (inApp (inMem (fun x hx => (List.mem_append_left _ hx))) inNil)
 replace hZ := Nat.le_trans hZ hc2.size
 clear F0_0
 have hl2 := hl1.trans (Eq.refl (l0_0).length)
 refine ⟨.int .i64 (y1.1), rfl, ?_⟩
 rewrite [(show (l0_0).length = (y1.2).length from hl1.symm)]
 try rewrite [(show (l0_0).length = (y1.2).length from hl1.symm)] at F1
 refine wS_pure 1 [(1, .int .i64 (y1.1))] (by kernel_rfl) ?_
 refine wS_end (by rfl) ?_
 refine eX_then ?_
 refine cW_seq ?_
 refine cW_region ?_
 refine wS_pure 2 [(4, .int .i64 (y1.1)), (9, .int .i64 (y1.1))] (by kernel_rfl) ?_
 refine wS_end (by rfl) ?_
 refine eX_then ?_
 refine cW_ret ?_
 have hq : (some ((y1.1, y1.2)) : Option ((Int) × (List (List (Int))))) = some _ := hm
 replace hq := someE hq
 subst hq
 refine eX_ret (vs := [.int .i64 (y1.1)]) [.tmp 4] (by rfl) ⟨by (show lkE _ _ _ = _); kernel_rfl, trivial⟩ ?_
 exact ⟨rfl, F2, (by first | exact hl2 | rfl), hB⟩

set_option maxRecDepth 100000 in
/-- laws.markPointS -/
theorem c_laws_markPointS {w0 : World} {l0 : List (Int × Int)} {A0 : Option Addr} {cap0 : Nat} {fp0 : List Nat} {p1 : Int} {r : (Int) × (List (Int × Int))} (hm : m_laws_markPointS l0 p1 = some r) (F0 : Ow 2 encII 29 w0 fp0 A0 cap0 l0) :
  Calls Try.prog 22 #[.slice A0 (l0).length cap0, .int .i64 (p1)] w0 fun e w' => e = .returned (.int .i64 (r.1)) ∧ Ow 2 encII 29 w' fp0 A0 cap0 r.2 ∧ (r.2).length = (l0).length ∧ Chg (fp0 ++ []) w0 w' := by
 have L0 := F0.low
 have hB : Chg (fp0 ++ []) w0 w0 := Chg.refl _ _
 have hZ := Nat.le_refl w0.heap.size
 unfold m_laws_markPointS at hm
 refine enterE (N := 27) Try.func22 (by rfl) Try.ntmps22 (by simp) [(0, .slice A0 (l0).length cap0), (1, .int .i64 (p1))] (by rfl) (by kernel_rfl) (fun a => ?_)
 refine cW_seq ?_
 refine cW_region ?_
 refine wS_pure 1 [(4, .int .i64 (0))] (by kernel_rfl) ?_
 refine wS_end (by rfl) ?_
 refine eX_then ?_
 refine cW_seq ?_
 refine cW_seq ?_
 refine cW_region ?_
 refine wS_pure 1 [(5, .int .i64 (0))] (by kernel_rfl) ?_
 refine wS_end (by rfl) ?_
 refine eX_then ?_
 obtain ⟨r1, hr1, hm⟩ := bindE hm
 have hm1 := hm
 refine cW_cut (fun a' w' => ∃ x1 : Int, ∃ l1 : List (Int × Int), (x1, l1) = r1 ∧ Fr 27 [(1, .int .i64 (x1))] a' ∧ Ow 2 encII 29 w' fp0 A0 cap0 l1 ∧ (l1).length = (l0).length ∧ Chg (fp0 ++ []) w0 w' ∧ w0.heap.size ≤ w'.heap.size) ?_ ?_
 ·refine cW_block ?_
  refine cW_loop _ (fun (s1 : Int × Int × (List (Int × Int))) a' w' => ∃ x2 : Int, ∃ x3 : Int, ∃ l2 : List (Int × Int), (x2, x3, l2) = s1 ∧ Fr 27 [(0, .slice A0 (l2).length cap0), (1, .int .i64 (x2)), (5, .int .i64 (x3))] a' ∧ Ow 2 encII 29 w' fp0 A0 cap0 l2 ∧ (l2).length = (l0).length ∧ Chg (fp0 ++ []) w0 w' ∧ w0.heap.size ≤ w'.heap.size) hr1 (fun hst => ⟨p1, 0, l0, rfl, Fr.of hst (by kernel_rfl), F0, (Eq.refl (l0).length), hB, hZ⟩) ?_
  rintro _ c1 a' w1 ⟨x2, x3, l2, rfl, hF1, F1, hl1, hB, hZ⟩ hx1
  refine Fr.goOn hF1 (by kernel_rfl) ?_
  have hm := hx1
  unfold m_laws_markPointS_s1 at hm
  refine cW_seq ?_
  refine cW_seq ?_
  refine cW_region ?_
  refine wS_pure 4 [(9, .bool (decide (x3 < (((l2).length : Int))))), (8, .int .i64 (((l2).length : Int))), (7, .slice A0 (l2).length cap0), (6, .int .i64 (x3))] (by kernel_rfl) ?_
  refine wS_end (by rfl) ?_
  refine eX_then ?_
  refine cW_cond (t := decide (x3 < (((l2).length : Int)))) (by kernel_rfl) (fun hb1 => ?_) (fun hb1 => ?_)
  ·have hm := condT hb1 hm
   refine cW_skip ?_
   refine eX_then ?_
   refine cW_seq ?_
   refine cW_block ?_
   refine cW_seq ?_
   refine cW_region ?_
   refine wS_pure 3 [(14, .int .i64 (x2)), (13, .int .i64 (x3)), (12, .slice A0 (l2).length cap0)] (by kernel_rfl) ?_
   obtain ⟨x4, hx2, hm⟩ := bindE hm
   refine wS_idx (d := 15) (T := 31) (A := A0) (n := (l2).length) (cap := cap0) (kd := .i64) (m := x3) (by kernel_rfl) sl31 ((F1.sl encII_ok).is hx2) ?_
   refine wS_pure 1 [(16, .pointer (some (elA A0 2 (x3) 0)))] (by kernel_rfl) ?_
   refine wS_storeEl (x := x4) ((x2, x4.2)) (T := 2) (U := 29) (cap := cap0) (j := 0) (A := A0) (v := .int .i64 (x2)) (vs := [.int .i64 (x2)]) (m := x3) (by kernel_rfl) (by rfl) sz2 (by rfl) encII_ok F1 hx2 (by simp only [List.length_cons, List.length_nil]; omega) (by rfl) ?_
   intro w2 F2 hc1
   replace hB := hB.inS hc1 (inMem (fun x hx => (List.mem_append_left _ hx)))
   replace hZ := Nat.le_trans hZ hc1.size
   clear F1
   have hl2 := (show (l2.set (Int.toNat x3) ((x2, x4.2))).length = (l2).length from List.length_set ..).trans hl1
   rewrite [show (l2).length = (l2.set (Int.toNat x3) ((x2, x4.2))).length from (List.length_set ..).symm]
   refine wS_end (by rfl) ?_
   refine eX_then ?_
   refine cW_seq ?_
   refine cW_region ?_
   refine wS_pure 3 [(1, .int .i64 (wr (x2 + 1))), (18, .int .i64 (wr (x2 + 1))), (17, .int .i64 (x2))] (by kernel_rfl) ?_
   refine wS_end (by rfl) ?_
   refine eX_then ?_
   refine cW_seq ?_
   refine cW_region ?_
   refine wS_pure 3 [(21, .int .i64 (wr (x2 + 1))), (20, .int .i64 (x3)), (19, .slice A0 (l2.set (Int.toNat x3) ((x2, x4.2))).length cap0)] (by kernel_rfl) ?_
   obtain ⟨x5, hx3, hm⟩ := bindE hm
   refine wS_idx (d := 22) (T := 31) (A := A0) (n := (l2.set (Int.toNat x3) ((x2, x4.2))).length) (cap := cap0) (kd := .i64) (m := x3) (by kernel_rfl) sl31 ((F2.sl encII_ok).is hx3) ?_
   refine wS_pure 1 [(23, .pointer (some (elA A0 2 (x3) 1)))] (by kernel_rfl) ?_
   refine wS_storeEl (x := x5) ((x5.1, wr (x2 + 1))) (T := 2) (U := 29) (cap := cap0) (j := 1) (A := A0) (v := .int .i64 (wr (x2 + 1))) (vs := [.int .i64 (wr (x2 + 1))]) (m := x3) (by kernel_rfl) (by rfl) sz2 (by rfl) encII_ok F2 hx3 (by simp only [List.length_cons, List.length_nil]; omega) (by rfl) ?_
   intro w3 F3 hc2
   replace hB := hB.inS hc2 (inMem (fun x hx => (List.mem_append_left _ hx)))
   replace hZ := Nat.le_trans hZ hc2.size
   clear F2
   have hl3 := (show ((l2.set (Int.toNat x3) ((x2, x4.2))).set (Int.toNat x3) ((x5.1, wr (x2 + 1)))).length = (l2.set (Int.toNat x3) ((x2, x4.2))).length from List.length_set ..).trans hl2
   rewrite [show (l2.set (Int.toNat x3) ((x2, x4.2))).length = ((l2.set (Int.toNat x3) ((x2, x4.2))).set (Int.toNat x3) ((x5.1, wr (x2 + 1)))).length from (List.length_set ..).symm]
   refine wS_end (by rfl) ?_
   refine eX_then ?_
   refine cW_region ?_
   refine wS_pure 3 [(1, .int .i64 (wr ((wr (x2 + 1)) + 1))), (25, .int .i64 (wr ((wr (x2 + 1)) + 1))), (24, .int .i64 (wr (x2 + 1)))] (by kernel_rfl) ?_
   refine wS_end (by rfl) ?_
   refine eX_block ?_
   refine eX_then ?_
   refine cW_region ?_
   refine wS_pure 3 [(5, .int .i64 (wr (x3 + 1))), (11, .int .i64 (wr (x3 + 1))), (10, .int .i64 (x3))] (by kernel_rfl) ?_
   refine wS_end (by rfl) ?_
   have hq : (some (Ctl.next ((wr ((wr (x2 + 1)) + 1), wr (x3 + 1), (l2.set (Int.toNat x3) ((x2, x4.2))).set (Int.toNat x3) ((x5.1, wr (x2 + 1)))))) : Option (Ctl (Int × Int × (List (Int × Int))) (Int × (List (Int × Int))))) = some _ := hm
   replace hq := someE hq
   subst hq
   exact eX_next hx1 (fun hst => ⟨wr ((wr (x2 + 1)) + 1), wr (x3 + 1), (l2.set (Int.toNat x3) ((x2, x4.2))).set (Int.toNat x3) ((x5.1, wr (x2 + 1))), rfl, Fr.of hst (by kernel_rfl), F3, hl3, hB, hZ⟩)
  ·have hm := condF hb1 hm
   refine cW_exit ?_
   refine eX_then_exit ?_
   have hq : (some (Ctl.out ((x2, l2))) : Option (Ctl (Int × Int × (List (Int × Int))) (Int × (List (Int × Int))))) = some _ := hm
   replace hq := someE hq
   subst hq
   refine eX_outX hx1 (fun hr2 => ?_)
   replace hr2 := hr2.symm
   subst hr2
   refine eX_block_hit ?_
   exact eX_J (fun hst => ⟨x2, l2, rfl, Fr.of hst (by kernel_rfl), F1, hl1, hB, hZ⟩)
 ·rintro a' w4 ⟨x1, l1, hJ, hF2, F4, hl4, hB, hZ⟩
  subst hJ
  refine Fr.goX hF2 (by kernel_rfl) ?_
  refine eX_then ?_
  refine cW_seq ?_
  refine cW_region ?_
  refine wS_pure 2 [(4, .int .i64 (x1)), (26, .int .i64 (x1))] (by kernel_rfl) ?_
  refine wS_end (by rfl) ?_
  refine eX_then ?_
  refine cW_ret ?_
  have hq : (some ((x1, l1)) : Option ((Int) × (List (Int × Int)))) = some _ := hm
  replace hq := someE hq
  subst hq
  refine eX_ret (vs := [.int .i64 (x1)]) [.tmp 4] (by rfl) ⟨by (show lkE _ _ _ = _); kernel_rfl, trivial⟩ ?_
  exact ⟨rfl, F4, (by first | exact hl4 | rfl), hB⟩

set_option maxRecDepth 100000 in
/-- laws.heldPointS -/
theorem c_laws_heldPointS {w0 : World} {l0 : List (Int × Int)} {A0 : Option Addr} {cap0 : Nat} {fp0 : List Nat} {p1 : Int} {r : (Int)} (hm : m_laws_heldPointS l0 p1 = some r) (F0 : Sl 2 encII w0 fp0 A0 l0) :
  Calls Try.prog 23 #[.slice A0 (l0).length cap0, .int .i64 (p1)] w0 fun e w' => e = .returned (.int .i64 (r)) ∧ Chg [] w0 w' := by
 have L0 := F0.low
 have hB : Chg [] w0 w0 := Chg.refl _ _
 have hZ := Nat.le_refl w0.heap.size
 unfold m_laws_heldPointS at hm
 refine enterE (N := 31) Try.func23 (by rfl) Try.ntmps23 (by simp) [(0, .slice A0 (l0).length cap0), (1, .int .i64 (p1))] (by rfl) (by kernel_rfl) (fun a => ?_)
 refine cW_seq ?_
 refine cW_region ?_
 refine wS_pure 1 [(4, .int .i64 (0))] (by kernel_rfl) ?_
 refine wS_end (by rfl) ?_
 refine eX_then ?_
 refine cW_seq ?_
 refine cW_seq ?_
 refine cW_region ?_
 refine wS_pure 1 [(5, .int .i64 (0))] (by kernel_rfl) ?_
 refine wS_end (by rfl) ?_
 refine eX_then ?_
 obtain ⟨r1, hr1, hm⟩ := bindE hm
 have hm1 := hm
 refine cW_cut (fun a' w' => ∃ x1 : Int, Sum.inl x1 = r1 ∧ Fr 31 [(1, .int .i64 (x1))] a' ∧ Chg [] w0 w' ∧ w0.heap.size ≤ w'.heap.size) ?_ ?_
 ·refine cW_block ?_
  refine cW_loop _ (fun (s1 : Int × Int) a' w' => ∃ x2 : Int, ∃ x3 : Int, (x2, x3) = s1 ∧ Fr 31 [(0, .slice A0 (l0).length cap0), (1, .int .i64 (x2)), (5, .int .i64 (x3))] a' ∧ Sl 2 encII w' fp0 A0 l0 ∧ Chg [] w0 w' ∧ w0.heap.size ≤ w'.heap.size) hr1 (fun hst => ⟨p1, 0, rfl, Fr.of hst (by kernel_rfl), F0, hB, hZ⟩) ?_
  rintro _ c1 a' w1 ⟨x2, x3, rfl, hF1, F1, hB, hZ⟩ hx1
  refine Fr.goOn hF1 (by kernel_rfl) ?_
  have hm := hx1
  unfold m_laws_heldPointS_s1 at hm
  refine cW_seq ?_
  refine cW_seq ?_
  refine cW_region ?_
  refine wS_pure 4 [(9, .bool (decide (x3 < (((l0).length : Int))))), (8, .int .i64 (((l0).length : Int))), (7, .slice A0 (l0).length cap0), (6, .int .i64 (x3))] (by kernel_rfl) ?_
  refine wS_end (by rfl) ?_
  refine eX_then ?_
  refine cW_cond (t := decide (x3 < (((l0).length : Int)))) (by kernel_rfl) (fun hb1 => ?_) (fun hb1 => ?_)
  ·have hm := condT hb1 hm
   refine cW_skip ?_
   refine eX_then ?_
   refine cW_seq ?_
   refine cW_block ?_
   refine cW_seq ?_
   refine cW_seq ?_
   refine cW_region ?_
   refine wS_pure 2 [(13, .int .i64 (x3)), (12, .slice A0 (l0).length cap0)] (by kernel_rfl) ?_
   obtain ⟨x4, hx2, hm⟩ := bindE hm
   refine wS_idx (d := 14) (T := 31) (A := A0) (n := (l0).length) (cap := cap0) (kd := .i64) (m := x3) (by kernel_rfl) sl31 (F1.is hx2) ?_
   refine wS_pure 1 [(15, .pointer (some (elA A0 2 (x3) 0)))] (by kernel_rfl) ?_
   refine wS_load1 (d := 16) (T := 2) (ad := (elA A0 2 (x3) 0)) (v := .int .i64 (x4.1)) (by kernel_rfl) vt2 (Sl.cell F1 hx2 0 (by rfl)) ?_
   refine wS_pure 2 [(18, .bool (x4.1 != x2)), (17, .int .i64 (x2))] (by kernel_rfl) ?_
   refine wS_end (by rfl) ?_
   refine eX_then ?_
   refine cW_cond (t := x4.1 != x2) (by kernel_rfl) (fun hb2 => ?_) (fun hb2 => ?_)
   ·have hm := condT hb2 hm
    refine cW_seq ?_
    refine cW_region ?_
    refine wS_pure 1 [(4, .int .i64 ((-1)))] (by kernel_rfl) ?_
    refine wS_end (by rfl) ?_
    refine eX_then ?_
    refine cW_ret ?_
    refine eX_then_ret ?_
    refine eX_block_ret ?_
    refine eX_then_ret ?_
    have hq : (some (Ctl.out (Sum.inr ((-1)))) : Option (Ctl (Int × Int) (Sum (Int) ((Int))))) = some _ := hm
    replace hq := someE hq
    subst hq
    refine eX_outR hx1 (fun hr => ?_)
    subst hr
    refine eX_block_ret ?_
    refine eX_then_ret ?_
    refine eX_then_ret ?_
    have hq : (some ((-1)) : Option ((Int))) = some _ := hm1
    replace hq := someE hq
    subst hq
    refine eX_ret (vs := [.int .i64 ((-1))]) [.tmp 4] (by rfl) ⟨by (show lkE _ _ _ = _); kernel_rfl, trivial⟩ ?_
    exact ⟨rfl, hB⟩
   ·have hm := condF hb2 hm
    refine cW_skip ?_
    refine eX_then ?_
    refine cW_seq ?_
    refine cW_region ?_
    refine wS_pure 3 [(1, .int .i64 (wr (x2 + 1))), (20, .int .i64 (wr (x2 + 1))), (19, .int .i64 (x2))] (by kernel_rfl) ?_
    refine wS_end (by rfl) ?_
    refine eX_then ?_
    refine cW_seq ?_
    refine cW_seq ?_
    refine cW_region ?_
    refine wS_pure 2 [(22, .int .i64 (x3)), (21, .slice A0 (l0).length cap0)] (by kernel_rfl) ?_
    obtain ⟨x5, hx3, hm⟩ := bindE hm
    refine wS_idx (d := 23) (T := 31) (A := A0) (n := (l0).length) (cap := cap0) (kd := .i64) (m := x3) (by kernel_rfl) sl31 (F1.is hx3) ?_
    refine wS_pure 1 [(24, .pointer (some (elA A0 2 (x3) 1)))] (by kernel_rfl) ?_
    refine wS_load1 (d := 25) (T := 2) (ad := (elA A0 2 (x3) 1)) (v := .int .i64 (x5.2)) (by kernel_rfl) vt2 (Sl.cell F1 hx3 1 (by rfl)) ?_
    refine wS_pure 2 [(27, .bool (x5.2 != (wr (x2 + 1)))), (26, .int .i64 (wr (x2 + 1)))] (by kernel_rfl) ?_
    refine wS_end (by rfl) ?_
    refine eX_then ?_
    refine cW_cond (t := x5.2 != (wr (x2 + 1))) (by kernel_rfl) (fun hb3 => ?_) (fun hb3 => ?_)
    ·have hm := condT hb3 hm
     refine cW_seq ?_
     refine cW_region ?_
     refine wS_pure 1 [(4, .int .i64 ((-1)))] (by kernel_rfl) ?_
     refine wS_end (by rfl) ?_
     refine eX_then ?_
     refine cW_prune [(4, .int .i64 ((-1)))] (by kernel_rfl) (by kernel_rfl) (fun a1 => ?_)
     refine cW_ret ?_
     refine eX_then_ret ?_
     refine eX_block_ret ?_
     refine eX_then_ret ?_
     have hq : (some (Ctl.out (Sum.inr ((-1)))) : Option (Ctl (Int × Int) (Sum (Int) ((Int))))) = some _ := hm
     replace hq := someE hq
     subst hq
     refine eX_outR hx1 (fun hr => ?_)
     subst hr
     refine eX_block_ret ?_
     refine eX_then_ret ?_
     refine eX_then_ret ?_
     have hq : (some ((-1)) : Option ((Int))) = some _ := hm1
     replace hq := someE hq
     subst hq
     refine eX_ret (vs := [.int .i64 ((-1))]) [.tmp 4] (by rfl) ⟨by (show lkE _ _ _ = _); kernel_rfl, trivial⟩ ?_
     exact ⟨rfl, hB⟩
    ·have hm := condF hb3 hm
     refine cW_skip ?_
     refine eX_then ?_
     refine cW_region ?_
     refine wS_pure 3 [(1, .int .i64 (wr ((wr (x2 + 1)) + 1))), (29, .int .i64 (wr ((wr (x2 + 1)) + 1))), (28, .int .i64 (wr (x2 + 1)))] (by kernel_rfl) ?_
     refine wS_end (by rfl) ?_
     refine eX_block ?_
     refine eX_then ?_
     refine cW_prune [(0, .slice A0 (l0).length cap0), (1, .int .i64 (wr ((wr (x2 + 1)) + 1))), (5, .int .i64 (x3))] (by kernel_rfl) (by kernel_rfl) (fun a2 => ?_)
     refine cW_region ?_
     refine wS_pure 3 [(5, .int .i64 (wr (x3 + 1))), (11, .int .i64 (wr (x3 + 1))), (10, .int .i64 (x3))] (by kernel_rfl) ?_
     refine wS_end (by rfl) ?_
     have hq : (some (Ctl.next ((wr ((wr (x2 + 1)) + 1), wr (x3 + 1)))) : Option (Ctl (Int × Int) (Sum (Int) ((Int))))) = some _ := hm
     replace hq := someE hq
     subst hq
     exact eX_next hx1 (fun hst => ⟨wr ((wr (x2 + 1)) + 1), wr (x3 + 1), rfl, Fr.of hst (by kernel_rfl), F1, hB, hZ⟩)
  ·have hm := condF hb1 hm
   refine cW_exit ?_
   refine eX_then_exit ?_
   have hq : (some (Ctl.out (Sum.inl x2)) : Option (Ctl (Int × Int) (Sum (Int) ((Int))))) = some _ := hm
   replace hq := someE hq
   subst hq
   refine eX_outX hx1 (fun hr2 => ?_)
   replace hr2 := hr2.symm
   subst hr2
   refine eX_block_hit ?_
   exact eX_J (fun hst => ⟨x2, rfl, Fr.of hst (by kernel_rfl), hB, hZ⟩)
 ·rintro a' w2 ⟨x1, hJ, hF2, hB, hZ⟩
  subst hJ
  refine Fr.goX hF2 (by kernel_rfl) ?_
  refine eX_then ?_
  refine cW_seq ?_
  refine cW_region ?_
  refine wS_pure 2 [(4, .int .i64 (x1)), (30, .int .i64 (x1))] (by kernel_rfl) ?_
  refine wS_end (by rfl) ?_
  refine eX_then ?_
  refine cW_ret ?_
  have hq : (some x1 : Option ((Int))) = some _ := hm
  replace hq := someE hq
  subst hq
  refine eX_ret (vs := [.int .i64 (x1)]) [.tmp 4] (by rfl) ⟨by (show lkE _ _ _ = _); kernel_rfl, trivial⟩ ?_
  exact ⟨rfl, hB⟩

set_option maxRecDepth 100000 in
/-- laws.FnExactFewestBlocks -/
theorem c_laws_FnExactFewestBlocks {w0 : World} {l0_0 : List (List (Int))} {A0_0 : Option Addr} {cap0_0 : Nat} {fp0_0 : List Nat} {p1_0 : Int} {p1_1 : Int} {p2_0 : Int} {p2_1 : Int} {r : (Bool)} (hm : m_laws_FnExactFewestBlocks l0_0 p1_0 p1_1 p2_0 p2_1 = some r) (F0_0 : SlR 1 encI w0 fp0_0 A0_0 l0_0) :
  Calls Try.prog 5 #[.agg #[.slice A0_0 (l0_0).length cap0_0], .agg #[.int .i64 (p1_0), .int .i64 (p1_1)], .agg #[.int .i64 (p2_0), .int .i64 (p2_1)]] w0 fun e w' => e = .returned (.bool (r)) ∧ Chg [] w0 w' := by
 have L0_0 := F0_0.low
 have hB : Chg [] w0 w0 := Chg.refl _ _
 have hZ := Nat.le_refl w0.heap.size
 unfold m_laws_FnExactFewestBlocks at hm
 refine enterE (N := 112) Try.func5 (by rfl) Try.ntmps5 (by simp) [(0, .agg #[.slice A0_0 (l0_0).length cap0_0]), (1, .agg #[.int .i64 (p1_0), .int .i64 (p1_1)]), (2, .agg #[.int .i64 (p2_0), .int .i64 (p2_1)])] (by rfl) (by kernel_rfl) (fun a => ?_)
 refine cW_seq ?_
 refine cW_region ?_
 refine wS_box (d := 3) (T := 41) (x := .agg #[.slice A0_0 (l0_0).length cap0_0]) (by kernel_rfl) ?_
 intro b1 w1 G1 F1 hc1
 replace F1 : Cl w1 b1 41 [.slice A0_0 (l0_0).length cap0_0] := F1
 replace F0_0 := F0_0.chg hc1 Dj.nil
 replace hB := hB.inS hc1 inNil
 replace G1 := Nat.le_trans hZ G1
 replace hZ := Nat.le_trans hZ hc1.size
 refine wS_box (d := 4) (T := 42) (x := .agg #[.int .i64 (p1_0), .int .i64 (p1_1)]) (by kernel_rfl) ?_
 intro b2 w2 G2 F2 hc2
 replace F2 : Cl w2 b2 42 [.int .i64 (p1_0), .int .i64 (p1_1)] := F2
 have D1 : Dj [b1] [b2] := Dj.of (lt1 F1.lt) (low1 G2)
 replace F0_0 := F0_0.chg hc2 Dj.nil
 replace F1 := F1.chg hc2 notNil
 replace hB := hB.inS hc2 inNil
 replace G2 := Nat.le_trans hZ G2
 replace hZ := Nat.le_trans hZ hc2.size
 refine wS_box (d := 5) (T := 42) (x := .agg #[.int .i64 (p2_0), .int .i64 (p2_1)]) (by kernel_rfl) ?_
 intro b3 w3 G3 F3 hc3
 replace F3 : Cl w3 b3 42 [.int .i64 (p2_0), .int .i64 (p2_1)] := F3
 have D2 : Dj [b1] [b3] := Dj.of (lt1 F1.lt) (low1 G3)
 have D3 : Dj [b2] [b3] := Dj.of (lt1 F2.lt) (low1 G3)
 replace F0_0 := F0_0.chg hc3 Dj.nil
 replace F1 := F1.chg hc3 notNil
 replace F2 := F2.chg hc3 notNil
 replace hB := hB.inS hc3 inNil
 replace G3 := Nat.le_trans hZ G3
 replace hZ := Nat.le_trans hZ hc3.size
 refine wS_pure 1 [(6, .bool (false))] (by kernel_rfl) ?_
 refine wS_end (by rfl) ?_
 refine eX_then ?_
 refine cW_seq ?_
 refine cW_region ?_
 refine wS_pure 1 [(7, .int .i64 (1048576))] (by kernel_rfl) ?_
 refine wS_end (by rfl) ?_
 refine eX_then ?_
 refine cW_seq ?_
 refine cW_region ?_
 refine wS_loadA (d := 18) (T := 41) (ad := ⟨b1, 0, none⟩) (vs := [.slice A0_0 (l0_0).length cap0_0]) (by kernel_rfl) vt41 (fun i u hu => box_cells F1 0 hu (by rfl)) ?_
 refine wS_pure 1 [(19, .int .i64 (1048576))] (by kernel_rfl) ?_
 obtain ⟨y1, hy1, hm⟩ := bindE hm
 refine wS_calls (d := 20) (f := 14) (vs := [.agg #[.slice A0_0 (l0_0).length cap0_0], .int .i64 (1048576)]) (by kernel_rfl) ent14 (c_laws_szMaze hy1 F0_0) ?_
 rintro _ w4 ⟨rfl, hc4⟩
 replace F0_0 := F0_0.chg hc4 Dj.nil
 replace F1 := F1.chg hc4 notNil
 replace F2 := F2.chg hc4 notNil
 replace F3 := F3.chg hc4 notNil
 replace hB := hB.inS hc4 inNil
 replace hZ := Nat.le_trans hZ hc4.size
 refine ⟨.int .i64 (y1), rfl, ?_⟩
 refine wS_pure 1 [(7, .int .i64 (y1))] (by kernel_rfl) ?_
 refine wS_end (by rfl) ?_
 refine eX_then ?_
 refine cW_seq ?_
 refine cW_seq ?_
 refine cW_region ?_
 refine wS_pure 2 [(22, .bool (decide (y1 < 0))), (21, .int .i64 (y1))] (by kernel_rfl) ?_
 refine wS_end (by rfl) ?_
 refine eX_then ?_
 refine cW_cond (t := decide (y1 < 0)) (by kernel_rfl) (fun hb1 => ?_) (fun hb1 => ?_)
 ·have hm := condT hb1 hm
  refine cW_seq ?_
  refine cW_region ?_
  refine wS_pure 1 [(6, .bool (true))] (by kernel_rfl) ?_
  refine wS_end (by rfl) ?_
  refine eX_then ?_
  refine cW_ret ?_
  refine eX_then_ret ?_
  have hq : (some true : Option ((Bool))) = some _ := hm
  replace hq := someE hq
  subst hq
  refine eX_ret (vs := [.bool (true)]) [.tmp 6] (by rfl) ⟨by (show lkE _ _ _ = _); kernel_rfl, trivial⟩ ?_
  exact ⟨rfl, hB⟩
 ·have hm := condF hb1 hm
  refine cW_skip ?_
  refine eX_then ?_
  refine cW_seq ?_
  refine cW_drawnTail [] 11 (by kernel_rfl) (by kernel_rfl) (fun w5 hc5 => ?_)
  replace F0_0 := F0_0.chg hc5 Dj.nil
  replace F1 := F1.chg hc5 notNil
  replace F2 := F2.chg hc5 notNil
  replace F3 := F3.chg hc5 notNil
  replace hB := hB.inS hc5 inNil
  replace hZ := Nat.le_trans hZ hc5.size
  have hS := Chg.refl [] w5
  have Z1 := F0_0
  have Z2 := F1
  have Z3 := F2
  have Z4 := F3
  refine wH_loadA (i := 0) (d := 24) (T := 41) (ad := ⟨b1, 0, none⟩) (vs := [.slice A0_0 (l0_0).length cap0_0]) (by kernel_rfl) (qT (qT qZ)) (by kernel_rfl) (by kernel_rfl) vt41 (fun W hW i u hu => box_cells (Z2.chg hW notNil) 0 hu (by rfl)) ?_
  refine wH_loadA (i := 2) (d := 26) (T := 42) (ad := ⟨b2, 0, none⟩) (vs := [.int .i64 (p1_0), .int .i64 (p1_1)]) (by kernel_rfl) (qT (qT qZ)) (by kernel_rfl) (by kernel_rfl) vt42 (fun W hW i u hu => box_cells (Z3.chg hW notNil) 0 hu (by rfl)) ?_
  refine wH_loadA (i := 4) (d := 28) (T := 42) (ad := ⟨b3, 0, none⟩) (vs := [.int .i64 (p2_0), .int .i64 (p2_1)]) (by kernel_rfl) (qT (qT qZ)) (by kernel_rfl) (by kernel_rfl) vt42 (fun W hW i u hu => box_cells (Z4.chg hW notNil) 0 hu (by rfl)) ?_
  refine wH_all [1] (by rfl) (by kernel_rfl) (by simp) ⟨⟨by kernel_rfl, ?_⟩, trivial⟩
  obtain ⟨y2, hy2, hm⟩ := bindE hm
  refine wS_calls (d := 25) (f := 16) (vs := [.agg #[.slice A0_0 (l0_0).length cap0_0]]) (by kernel_rfl) ent16 (c_laws_toMaze hy2 F0_0) ?_
  rintro _ w6 ⟨A1, cap1, fp1, fr1, rfl, F4, G4, hc6⟩
  have D4 : Dj [b1] (fp1 ++ fr1) := Dj.of (lt1 F1.lt) G4
  have D5 : Dj [b2] (fp1 ++ fr1) := Dj.of (lt1 F2.lt) G4
  have D6 : Dj [b3] (fp1 ++ fr1) := Dj.of (lt1 F3.lt) G4
  replace F0_0 := F0_0.chg hc6 Dj.nil
  replace F1 := F1.chg hc6 notNil
  replace F2 := F2.chg hc6 notNil
  replace F3 := F3.chg hc6 notNil
  replace hB := hB.inS hc6 inNil
  have hSz := hS
  replace hS := hS.inS hc6 inNil
  replace G4 := low_le hZ G4
  replace hZ := Nat.le_trans hZ hc6.size
  refine ⟨.agg #[.slice A1 (y2).length cap1], rfl, ?_⟩
  refine wS_end (by kernel_rfl) ?_
  refine eX_KH hS ?_
  refine wH_all [3] (by rfl) (by kernel_rfl) (by simp) ⟨⟨by kernel_rfl, ?_⟩, trivial⟩
  obtain ⟨y3, hy3, hm⟩ := bindE hm
  refine wS_calls (d := 27) (f := 17) (vs := [.agg #[.int .i64 (p1_0), .int .i64 (p1_1)]]) (by kernel_rfl) ent17 (c_laws_toPoint hy3) ?_
  rintro _ w7 ⟨rfl, hc7⟩
  replace F0_0 := F0_0.chg hc7 Dj.nil
  replace F1 := F1.chg hc7 notNil
  replace F2 := F2.chg hc7 notNil
  replace F3 := F3.chg hc7 notNil
  replace F4 := F4.chg hc7 Dj.nil
  replace hB := hB.inS hc7 inNil
  have hSz := hS
  replace hS := hS.inS hc7 inNil
  replace hZ := Nat.le_trans hZ hc7.size
  refine ⟨.agg #[.int .i64 (y3.1), .int .i64 (y3.2)], rfl, ?_⟩
  refine wS_end (by kernel_rfl) ?_
  refine eX_KH hS ?_
  refine wH_all [5] (by rfl) (by kernel_rfl) (by simp) ⟨⟨by kernel_rfl, ?_⟩, trivial⟩
  obtain ⟨y4, hy4, hm⟩ := bindE hm
  refine wS_calls (d := 29) (f := 17) (vs := [.agg #[.int .i64 (p2_0), .int .i64 (p2_1)]]) (by kernel_rfl) ent17 (c_laws_toPoint hy4) ?_
  rintro _ w8 ⟨rfl, hc8⟩
  replace F0_0 := F0_0.chg hc8 Dj.nil
  replace F1 := F1.chg hc8 notNil
  replace F2 := F2.chg hc8 notNil
  replace F3 := F3.chg hc8 notNil
  replace F4 := F4.chg hc8 Dj.nil
  replace hB := hB.inS hc8 inNil
  have hSz := hS
  replace hS := hS.inS hc8 inNil
  replace hZ := Nat.le_trans hZ hc8.size
  refine ⟨.agg #[.int .i64 (y4.1), .int .i64 (y4.2)], rfl, ?_⟩
  refine wS_end (by kernel_rfl) ?_
  refine eX_KH hS ?_
  refine wH_all [6] (by rfl) (by kernel_rfl) (by simp) ⟨⟨by kernel_rfl, ?_⟩, trivial⟩
  obtain ⟨y5, hy5, hm⟩ := bindE hm
  refine wS_calls (d := 30) (f := 19) (vs := [.agg #[.slice A1 (y2).length cap1], .agg #[.int .i64 (y3.1), .int .i64 (y3.2)], .agg #[.int .i64 (y4.1), .int .i64 (y4.2)]]) (by kernel_rfl) ent19 (c_spec_FewestBlocks hy5 (F4.slr encI_ok)) ?_
  rintro _ w9 ⟨A2, cap2, fp2, rfl, F5, G5, hc9⟩
  have D7 : Dj [b1] fp2 := Dj.of (lt1 F1.lt) G5
  have D8 : Dj [b2] fp2 := Dj.of (lt1 F2.lt) G5
  have D9 : Dj [b3] fp2 := Dj.of (lt1 F3.lt) G5
  have D10 : Dj (fp1 ++ fr1) fp2 := Dj.of F4.low G5
  replace F0_0 := F0_0.chg hc9 Dj.nil
  replace F1 := F1.chg hc9 notNil
  replace F2 := F2.chg hc9 notNil
  replace F3 := F3.chg hc9 notNil
  replace F4 := F4.chg hc9 Dj.nil
  replace hB := hB.inS hc9 inNil
  have hSz := hS
  replace hS := hS.inS hc9 inNil
  replace G5 := low_le hZ G5
  replace hZ := Nat.le_trans hZ hc9.size
  refine ⟨.tuple #[.slice A2 (y5.1).length cap2, .bool (y5.2)], rfl, ?_⟩
  refine wS_end (by kernel_rfl) ?_
  refine eX_KH hS ?_
  refine wH_take [7, 8, 9, 10] [10, 9, 8, 7, 6, 5, 3, 1, 4, 2, 0] [(8, .slice A2 (y5.1).length cap2), (32, .bool (y5.2)), (31, .slice A2 (y5.1).length cap2), (23, .tuple #[.slice A2 (y5.1).length cap2, .bool (y5.2)])] (by kernel_rfl) (qT (qT qZ)) (by kernel_rfl) ?_
  refine wH_done (by kernel_rfl) ?_
  refine eX_tail ?_
  refine wS_pure 1 [(9, .bool (y5.2))] (by kernel_rfl) ?_
  refine wS_end (by rfl) ?_
  refine eX_then ?_
  refine cW_prune [(3, .pointer (some ⟨b1, 0, none⟩)), (4, .pointer (some ⟨b2, 0, none⟩)), (5, .pointer (some ⟨b3, 0, none⟩)), (8, .slice A2 (y5.1).length cap2), (9, .bool (y5.2))] (by kernel_rfl) (by kernel_rfl) (fun a1 => ?_)
  refine cW_seq ?_
  refine cW_region ?_
  refine wS_loadA (d := 33) (T := 41) (ad := ⟨b1, 0, none⟩) (vs := [.slice A0_0 (l0_0).length cap0_0]) (by kernel_rfl) vt41 (fun i u hu => box_cells F1 0 hu (by rfl)) ?_
  obtain ⟨y6, hy6, hm⟩ := bindE hm
  refine wS_calls (d := 34) (f := 16) (vs := [.agg #[.slice A0_0 (l0_0).length cap0_0]]) (by kernel_rfl) ent16 (c_laws_toMaze hy6 F0_0) ?_
  rintro _ w10 ⟨A3, cap3, fp3, fr2, rfl, F6, G6, hc10⟩
  have D11 : Dj [b1] (fp3 ++ fr2) := Dj.of (lt1 F1.lt) G6
  have D12 : Dj [b2] (fp3 ++ fr2) := Dj.of (lt1 F2.lt) G6
  have D13 : Dj [b3] (fp3 ++ fr2) := Dj.of (lt1 F3.lt) G6
  have D14 : Dj (fp1 ++ fr1) (fp3 ++ fr2) := Dj.of F4.low G6
  have D15 : Dj fp2 (fp3 ++ fr2) := Dj.of F5.low G6
  replace F0_0 := F0_0.chg hc10 Dj.nil
  replace F1 := F1.chg hc10 notNil
  replace F2 := F2.chg hc10 notNil
  replace F3 := F3.chg hc10 notNil
  replace F4 := F4.chg hc10 Dj.nil
  replace F5 := F5.chg hc10 Dj.nil
  replace hB := hB.inS hc10 inNil
  replace G6 := low_le hZ G6
  replace hZ := Nat.le_trans hZ hc10.size
  refine ⟨.agg #[.slice A3 (y6).length cap3], rfl, ?_⟩
  refine wS_alloc (d := 10) (T := 26) (z := .agg #[.slice none 0 0]) (by kernel_rfl) (by kernel_rfl) ?_
  intro b4 w11 G7 F7 hc11
  replace F7 : Cl w11 b4 26 [.slice none 0 0] := F7
  have D16 : Dj [b1] [b4] := Dj.of (lt1 F1.lt) (low1 G7)
  have D17 : Dj [b2] [b4] := Dj.of (lt1 F2.lt) (low1 G7)
  have D18 : Dj [b3] [b4] := Dj.of (lt1 F3.lt) (low1 G7)
  have D19 : Dj (fp1 ++ fr1) [b4] := Dj.of F4.low (low1 G7)
  have D20 : Dj fp2 [b4] := Dj.of F5.low (low1 G7)
  have D21 : Dj (fp3 ++ fr2) [b4] := Dj.of F6.low (low1 G7)
  replace F0_0 := F0_0.chg hc11 Dj.nil
  replace F1 := F1.chg hc11 notNil
  replace F2 := F2.chg hc11 notNil
  replace F3 := F3.chg hc11 notNil
  replace F4 := F4.chg hc11 Dj.nil
  replace F5 := F5.chg hc11 Dj.nil
  replace F6 := F6.chg hc11 Dj.nil
  replace hB := hB.inS hc11 inNil
  replace G7 := Nat.le_trans hZ G7
  replace hZ := Nat.le_trans hZ hc11.size
  refine wS_store (T := 26) (g := b4) (o := 0) (ad := ⟨b4, 0, none⟩) (v := .agg #[.slice A3 (y6).length cap3]) (vs := [.slice A3 (y6).length cap3]) (by kernel_rfl) (by rfl) sz26 (by rfl) (by rfl) F7 (by simp only [List.length_cons, List.length_nil]; omega) ?_
  intro w12 F8 hc12
  replace F0_0 := F0_0.chg hc12 (Dj.of L0_0 (low1 G7))
  replace F1 := F1.chg hc12 (dj1 D16)
  replace F2 := F2.chg hc12 (dj1 D17)
  replace F3 := F3.chg hc12 (dj1 D18)
  replace F4 := F4.chg hc12 D19
  replace F5 := F5.chg hc12 D20
  replace F6 := F6.chg hc12 D21
  replace hB := hB.inS hc12 (inLow (low1 G7))
  replace hZ := Nat.le_trans hZ hc12.size
  replace F8 : Cl w12 b4 26 [.slice A3 (y6).length cap3] := F8
  clear F7
  refine wS_end (by rfl) ?_
  refine eX_then ?_
  refine cW_seq ?_
  refine cW_drawnTail [] 10 (by kernel_rfl) (by kernel_rfl) (fun w13 hc13 => ?_)
  replace F0_0 := F0_0.chg hc13 Dj.nil
  replace F1 := F1.chg hc13 notNil
  replace F2 := F2.chg hc13 notNil
  replace F3 := F3.chg hc13 notNil
  replace F4 := F4.chg hc13 Dj.nil
  replace F5 := F5.chg hc13 Dj.nil
  replace F6 := F6.chg hc13 Dj.nil
  replace F8 := F8.chg hc13 notNil
  replace hB := hB.inS hc13 inNil
  replace hZ := Nat.le_trans hZ hc13.size
  have hS := Chg.refl [] w13
  have Z5 := F0_0
  have Z6 := F1
  have Z7 := F2
  have Z8 := F3
  have Z9 := F4
  have Z10 := F5
  have Z11 := F6
  have Z12 := F8
  refine wH_loadA (i := 0) (d := 36) (T := 26) (ad := ⟨b4, 0, none⟩) (vs := [.slice A3 (y6).length cap3]) (by kernel_rfl) (qT (qT qZ)) (by kernel_rfl) (by kernel_rfl) vt26 (fun W hW i u hu => box_cells (Z12.chg hW notNil) 0 hu (by rfl)) ?_
  refine wH_loadA (i := 1) (d := 37) (T := 42) (ad := ⟨b2, 0, none⟩) (vs := [.int .i64 (p1_0), .int .i64 (p1_1)]) (by kernel_rfl) (qT (qT qZ)) (by kernel_rfl) (by kernel_rfl) vt42 (fun W hW i u hu => box_cells (Z7.chg hW notNil) 0 hu (by rfl)) ?_
  refine wH_loadA (i := 3) (d := 39) (T := 42) (ad := ⟨b3, 0, none⟩) (vs := [.int .i64 (p2_0), .int .i64 (p2_1)]) (by kernel_rfl) (qT (qT qZ)) (by kernel_rfl) (by kernel_rfl) vt42 (fun W hW i u hu => box_cells (Z8.chg hW notNil) 0 hu (by rfl)) ?_
  refine wH_all [2] (by rfl) (by kernel_rfl) (by simp) ⟨⟨by kernel_rfl, ?_⟩, trivial⟩
  obtain ⟨y7, hy7, hm⟩ := bindE hm
  refine wS_calls (d := 38) (f := 17) (vs := [.agg #[.int .i64 (p1_0), .int .i64 (p1_1)]]) (by kernel_rfl) ent17 (c_laws_toPoint hy7) ?_
  rintro _ w14 ⟨rfl, hc14⟩
  replace F0_0 := F0_0.chg hc14 Dj.nil
  replace F1 := F1.chg hc14 notNil
  replace F2 := F2.chg hc14 notNil
  replace F3 := F3.chg hc14 notNil
  replace F4 := F4.chg hc14 Dj.nil
  replace F5 := F5.chg hc14 Dj.nil
  replace F6 := F6.chg hc14 Dj.nil
  replace F8 := F8.chg hc14 notNil
  replace hB := hB.inS hc14 inNil
  have hSz := hS
  replace hS := hS.inS hc14 inNil
  replace hZ := Nat.le_trans hZ hc14.size
  refine ⟨.agg #[.int .i64 (y7.1), .int .i64 (y7.2)], rfl, ?_⟩
  refine wS_end (by kernel_rfl) ?_
  refine eX_KH hS ?_
  refine wH_all [4] (by rfl) (by kernel_rfl) (by simp) ⟨⟨by kernel_rfl, ?_⟩, trivial⟩
  obtain ⟨y8, hy8, hm⟩ := bindE hm
  refine wS_calls (d := 40) (f := 17) (vs := [.agg #[.int .i64 (p2_0), .int .i64 (p2_1)]]) (by kernel_rfl) ent17 (c_laws_toPoint hy8) ?_
  rintro _ w15 ⟨rfl, hc15⟩
  replace F0_0 := F0_0.chg hc15 Dj.nil
  replace F1 := F1.chg hc15 notNil
  replace F2 := F2.chg hc15 notNil
  replace F3 := F3.chg hc15 notNil
  replace F4 := F4.chg hc15 Dj.nil
  replace F5 := F5.chg hc15 Dj.nil
  replace F6 := F6.chg hc15 Dj.nil
  replace F8 := F8.chg hc15 notNil
  replace hB := hB.inS hc15 inNil
  have hSz := hS
  replace hS := hS.inS hc15 inNil
  replace hZ := Nat.le_trans hZ hc15.size
  refine ⟨.agg #[.int .i64 (y8.1), .int .i64 (y8.2)], rfl, ?_⟩
  refine wS_end (by kernel_rfl) ?_
  refine eX_KH hS ?_
  refine wH_all [5] (by rfl) (by kernel_rfl) (by simp) ⟨⟨by kernel_rfl, ?_⟩, trivial⟩
  obtain ⟨y9, hy9, hm⟩ := bindE hm
  refine wS_calls (d := 41) (f := 9) (vs := [.agg #[.slice A3 (y6).length cap3], .agg #[.int .i64 (y7.1), .int .i64 (y7.2)], .agg #[.int .i64 (y8.1), .int .i64 (y8.2)]]) (by kernel_rfl) ent9 (c_impl_FewestBlocks hy9 (F6.slr encI_ok)) ?_
  rintro _ w16 ⟨A4, cap4, fp4, rfl, F9, G8, hc16⟩
  have D22 : Dj [b1] fp4 := Dj.of (lt1 F1.lt) G8
  have D23 : Dj [b2] fp4 := Dj.of (lt1 F2.lt) G8
  have D24 : Dj [b3] fp4 := Dj.of (lt1 F3.lt) G8
  have D25 : Dj (fp1 ++ fr1) fp4 := Dj.of F4.low G8
  have D26 : Dj fp2 fp4 := Dj.of F5.low G8
  have D27 : Dj (fp3 ++ fr2) fp4 := Dj.of F6.low G8
  have D28 : Dj [b4] fp4 := Dj.of (lt1 F8.lt) G8
  replace F0_0 := F0_0.chg hc16 Dj.nil
  replace F1 := F1.chg hc16 notNil
  replace F2 := F2.chg hc16 notNil
  replace F3 := F3.chg hc16 notNil
  replace F4 := F4.chg hc16 Dj.nil
  replace F5 := F5.chg hc16 Dj.nil
  replace F6 := F6.chg hc16 Dj.nil
  replace F8 := F8.chg hc16 notNil
  replace hB := hB.inS hc16 inNil
  have hSz := hS
  replace hS := hS.inS hc16 inNil
  replace G8 := low_le hZ G8
  replace hZ := Nat.le_trans hZ hc16.size
  refine ⟨.tuple #[.slice A4 (y9.1).length cap4, .bool (y9.2)], rfl, ?_⟩
  refine wS_end (by kernel_rfl) ?_
  refine eX_KH hS ?_
  refine wH_take [6, 7, 8, 9] [9, 8, 7, 6, 5, 4, 2, 3, 1, 0] [(11, .slice A4 (y9.1).length cap4), (43, .bool (y9.2)), (42, .slice A4 (y9.1).length cap4), (35, .tuple #[.slice A4 (y9.1).length cap4, .bool (y9.2)])] (by kernel_rfl) (qT (qT qZ)) (by kernel_rfl) ?_
  refine wH_done (by kernel_rfl) ?_
  refine eX_tail ?_
  refine wS_pure 1 [(12, .bool (y9.2))] (by kernel_rfl) ?_
  refine wS_end (by rfl) ?_
  refine eX_then ?_
  refine cW_seq ?_
  refine cW_seq ?_
  refine cW_region ?_
  refine wS_pure 2 [(45, .slice A2 (y5.1).length cap2), (44, .slice A4 (y9.1).length cap4)] (by kernel_rfl) ?_
  obtain ⟨y10, hy10, hm⟩ := bindE hm
  refine wS_calls (d := 46) (f := 20) (vs := [.slice A4 (y9.1).length cap4, .slice A2 (y5.1).length cap2]) (by kernel_rfl) ent20 (c_laws_eqPointS hy10 (F9.sl encII_ok) (F5.sl encII_ok)) ?_
  rintro _ w17 ⟨rfl, hc17⟩
  replace F0_0 := F0_0.chg hc17 Dj.nil
  replace F1 := F1.chg hc17 notNil
  replace F2 := F2.chg hc17 notNil
  replace F3 := F3.chg hc17 notNil
  replace F4 := F4.chg hc17 Dj.nil
  replace F5 := F5.chg hc17 Dj.nil
  replace F6 := F6.chg hc17 Dj.nil
  replace F8 := F8.chg hc17 notNil
  replace F9 := F9.chg hc17 Dj.nil
  replace hB := hB.inS hc17 inNil
  replace hZ := Nat.le_trans hZ hc17.size
  refine ⟨.bool (y10), rfl, ?_⟩
  refine wS_pure 2 [(48, .bool (!y10)), (47, .bool (!y10))] (by kernel_rfl) ?_
  refine wS_bool (!y10) (fun hb2 => ?_) (fun hb2 => ?_)
  ·have hm := condT hb2 hm
   rewrite [hb2]
   refine wS_pure 4 [(52, .bool (true)), (51, undef), (50, undef), (49, undef)] (by kernel_rfl) ?_
   refine wS_end (by rfl) ?_
   refine eX_then ?_
   refine cW_prune [(3, .pointer (some ⟨b1, 0, none⟩)), (4, .pointer (some ⟨b2, 0, none⟩)), (5, .pointer (some ⟨b3, 0, none⟩)), (8, .slice A2 (y5.1).length cap2), (9, .bool (y5.2)), (10, .pointer (some ⟨b4, 0, none⟩)), (11, .slice A4 (y9.1).length cap4), (12, .bool (y9.2)), (52, .bool (true))] (by kernel_rfl) (by kernel_rfl) (fun a2 => ?_)
   refine cW_cond_t (by kernel_rfl) ?_
   refine cW_seq ?_
   refine cW_region ?_
   refine wS_pure 1 [(6, .bool (false))] (by kernel_rfl) ?_
   refine wS_end (by rfl) ?_
   refine eX_then ?_
   refine cW_ret ?_
   refine eX_then_ret ?_
   have hq : (some false : Option ((Bool))) = some _ := hm
   replace hq := someE hq
   subst hq
   refine eX_ret (vs := [.bool (false)]) [.tmp 6] (by rfl) ⟨by (show lkE _ _ _ = _); kernel_rfl, trivial⟩ ?_
   exact ⟨rfl, hB⟩
  ·have hm := condF hb2 hm
   rewrite [hb2]
   refine wS_pure 4 [(52, .bool (!(y9.2 == y5.2))), (51, .bool (!(y9.2 == y5.2))), (50, .bool (y5.2)), (49, .bool (y9.2))] (by kernel_rfl) ?_
   refine wS_end (by rfl) ?_
   refine eX_then ?_
   refine cW_prune [(3, .pointer (some ⟨b1, 0, none⟩)), (4, .pointer (some ⟨b2, 0, none⟩)), (5, .pointer (some ⟨b3, 0, none⟩)), (8, .slice A2 (y5.1).length cap2), (9, .bool (y5.2)), (10, .pointer (some ⟨b4, 0, none⟩)), (11, .slice A4 (y9.1).length cap4), (12, .bool (y9.2)), (52, .bool (!(y9.2 == y5.2)))] (by kernel_rfl) (by kernel_rfl) (fun a3 => ?_)
   refine cW_cond (t := !(y9.2 == y5.2)) (by kernel_rfl) (fun hb3 => ?_) (fun hb3 => ?_)
   ·have hm := condT hb3 hm
    refine cW_seq ?_
    refine cW_region ?_
    refine wS_pure 1 [(6, .bool (false))] (by kernel_rfl) ?_
    refine wS_end (by rfl) ?_
    refine eX_then ?_
    refine cW_ret ?_
    refine eX_then_ret ?_
    have hq : (some false : Option ((Bool))) = some _ := hm
    replace hq := someE hq
    subst hq
    refine eX_ret (vs := [.bool (false)]) [.tmp 6] (by rfl) ⟨by (show lkE _ _ _ = _); kernel_rfl, trivial⟩ ?_
    exact ⟨rfl, hB⟩
   ·have hm := condF hb3 hm
    refine cW_skip ?_
    refine eX_then ?_
    refine cW_seq ?_
    refine cW_seq ?_
    refine cW_drawnTail [] 3 (by kernel_rfl) (by kernel_rfl) (fun w18 hc18 => ?_)
    replace F0_0 := F0_0.chg hc18 Dj.nil
    replace F1 := F1.chg hc18 notNil
    replace F2 := F2.chg hc18 notNil
    replace F3 := F3.chg hc18 notNil
    replace F4 := F4.chg hc18 Dj.nil
    replace F5 := F5.chg hc18 Dj.nil
    replace F6 := F6.chg hc18 Dj.nil
    replace F8 := F8.chg hc18 notNil
    replace F9 := F9.chg hc18 Dj.nil
    replace hB := hB.inS hc18 inNil
    replace hZ := Nat.le_trans hZ hc18.size
    have hS := Chg.refl [] w18
    have Z13 := F0_0
    have Z14 := F1
    have Z15 := F2
    have Z16 := F3
    have Z17 := F4
    have Z18 := F5
    have Z19 := F6
    have Z20 := F8
    have Z21 := F9
    refine wH_loadA (i := 0) (d := 53) (T := 26) (ad := ⟨b4, 0, none⟩) (vs := [.slice A3 (y6).length cap3]) (by kernel_rfl) (qT (qT (qT qZ))) (by kernel_rfl) (by kernel_rfl) vt26 (fun W hW i u hu => box_cells (Z20.chg hW notNil) 0 hu (by rfl)) ?_
    refine wH_loadA (i := 1) (d := 54) (T := 41) (ad := ⟨b1, 0, none⟩) (vs := [.slice A0_0 (l0_0).length cap0_0]) (by kernel_rfl) (qT (qT (qT qZ))) (by kernel_rfl) (by kernel_rfl) vt41 (fun W hW i u hu => box_cells (Z14.chg hW notNil) 0 hu (by rfl)) ?_
    refine wH_all [2] (by rfl) (by kernel_rfl) (by simp) ⟨⟨by kernel_rfl, ?_⟩, trivial⟩
    obtain ⟨y11, hy11, hm⟩ := bindE hm
    refine wS_calls (d := 55) (f := 16) (vs := [.agg #[.slice A0_0 (l0_0).length cap0_0]]) (by kernel_rfl) ent16 (c_laws_toMaze hy11 F0_0) ?_
    rintro _ w19 ⟨A5, cap5, fp5, fr3, rfl, F10, G9, hc19⟩
    have D29 : Dj [b1] (fp5 ++ fr3) := Dj.of (lt1 F1.lt) G9
    have D30 : Dj [b2] (fp5 ++ fr3) := Dj.of (lt1 F2.lt) G9
    have D31 : Dj [b3] (fp5 ++ fr3) := Dj.of (lt1 F3.lt) G9
    have D32 : Dj (fp1 ++ fr1) (fp5 ++ fr3) := Dj.of F4.low G9
    have D33 : Dj fp2 (fp5 ++ fr3) := Dj.of F5.low G9
    have D34 : Dj (fp3 ++ fr2) (fp5 ++ fr3) := Dj.of F6.low G9
    have D35 : Dj [b4] (fp5 ++ fr3) := Dj.of (lt1 F8.lt) G9
    have D36 : Dj fp4 (fp5 ++ fr3) := Dj.of F9.low G9
    replace F0_0 := F0_0.chg hc19 Dj.nil
    replace F1 := F1.chg hc19 notNil
    replace F2 := F2.chg hc19 notNil
    replace F3 := F3.chg hc19 notNil
    replace F4 := F4.chg hc19 Dj.nil
    replace F5 := F5.chg hc19 Dj.nil
    replace F6 := F6.chg hc19 Dj.nil
    replace F8 := F8.chg hc19 notNil
    replace F9 := F9.chg hc19 Dj.nil
    replace hB := hB.inS hc19 inNil
    have hSz := hS
    replace hS := hS.inS hc19 inNil
    replace G9 := low_le hZ G9
    replace hZ := Nat.le_trans hZ hc19.size
    refine ⟨.agg #[.slice A5 (y11).length cap5], rfl, ?_⟩
    refine wS_end (by kernel_rfl) ?_
    refine eX_KH hS ?_
    refine wH_done (by kernel_rfl) ?_
    refine eX_tail ?_
    obtain ⟨y12, hy12, hm⟩ := bindE hm
    refine wS_calls (d := 56) (f := 18) (vs := [.agg #[.slice A3 (y6).length cap3], .agg #[.slice A5 (y11).length cap5]]) (by kernel_rfl) ent18 (c_laws_eqMaze hy12 (F6.slr encI_ok) (F10.slr encI_ok)) ?_
    rintro _ w20 ⟨rfl, hc20⟩
    replace F0_0 := F0_0.chg hc20 Dj.nil
    replace F1 := F1.chg hc20 notNil
    replace F2 := F2.chg hc20 notNil
    replace F3 := F3.chg hc20 notNil
    replace F4 := F4.chg hc20 Dj.nil
    replace F5 := F5.chg hc20 Dj.nil
    replace F6 := F6.chg hc20 Dj.nil
    replace F8 := F8.chg hc20 notNil
    replace F9 := F9.chg hc20 Dj.nil
    replace F10 := F10.chg hc20 Dj.nil
    replace hB := hB.inS hc20 inNil
    replace hZ := Nat.le_trans hZ hc20.size
    refine ⟨.bool (y12), rfl, ?_⟩
    refine wS_pure 1 [(57, .bool (!y12))] (by kernel_rfl) ?_
    refine wS_end (by rfl) ?_
    refine eX_then ?_
    refine cW_cond (t := !y12) (by kernel_rfl) (fun hb4 => ?_) (fun hb4 => ?_)
    ·have hm := condT hb4 hm
     refine cW_seq ?_
     refine cW_region ?_
     refine wS_pure 1 [(6, .bool (false))] (by kernel_rfl) ?_
     refine wS_end (by rfl) ?_
     refine eX_then ?_
     refine cW_ret ?_
     refine eX_then_ret ?_
     have hq : (some false : Option ((Bool))) = some _ := hm
     replace hq := someE hq
     subst hq
     refine eX_ret (vs := [.bool (false)]) [.tmp 6] (by rfl) ⟨by (show lkE _ _ _ = _); kernel_rfl, trivial⟩ ?_
     exact ⟨rfl, hB⟩
    ·have hm := condF hb4 hm
     refine cW_skip ?_
     refine eX_then ?_
     refine cW_seq ?_
     refine cW_region ?_
     refine wS_pure 1 [(13, .int .i64 (1))] (by kernel_rfl) ?_
     refine wS_end (by rfl) ?_
     refine eX_then ?_
     refine cW_seq ?_
     refine cW_region ?_
     refine wS_loadA (d := 58) (T := 26) (ad := ⟨b4, 0, none⟩) (vs := [.slice A3 (y6).length cap3]) (by kernel_rfl) vt26 (fun i u hu => box_cells F8 0 hu (by rfl)) ?_
     refine wS_pure 1 [(59, .int .i64 (1))] (by kernel_rfl) ?_
     obtain ⟨y13, hy13, hm⟩ := bindE hm
     refine wS_calls (d := 60) (f := 21) (vs := [.agg #[.slice A3 (y6).length cap3], .int .i64 (1)]) (by kernel_rfl) ent21 (c_laws_markMaze hy13 F6) ?_
     rintro _ w21 ⟨rfl, F11, hl1, hc21⟩
     replace F0_0 := F0_0.chg hc21 (Dj.app (Dj.of L0_0 G6) Dj.nil)
     replace F1 := F1.chg hc21 (dj1 (Dj.app D11 Dj.nil))
     replace F2 := F2.chg hc21 (dj1 (Dj.app D12 Dj.nil))
     replace F3 := F3.chg hc21 (dj1 (Dj.app D13 Dj.nil))
     replace F4 := F4.chg hc21 (Dj.app D14 Dj.nil)
     replace F5 := F5.chg hc21 (Dj.app D15 Dj.nil)
     replace F8 := F8.chg hc21 (dj1 (Dj.app (D21).symm Dj.nil))
     replace F9 := F9.chg hc21 (Dj.app (D27).symm Dj.nil)
     replace F10 := F10.chg hc21 (Dj.app (D34).symm Dj.nil)
     replace hB := hB.inS hc21 (inApp (inLow G6) inNil)
     replace hZ := Nat.le_trans hZ hc21.size
     clear F6
     refine ⟨.int .i64 (y13.1), rfl, ?_⟩
     rewrite [(show (y6).length = (y13.2).length from hl1.symm)]
     try rewrite [(show (y6).length = (y13.2).length from hl1.symm)] at F1
     try rewrite [(show (y6).length = (y13.2).length from hl1.symm)] at F8
     refine wS_pure 1 [(13, .int .i64 (y13.1))] (by kernel_rfl) ?_
     refine wS_end (by rfl) ?_
     refine eX_then ?_
     refine cW_seq ?_
     refine cW_seq ?_
     refine cW_region ?_
     refine wS_pure 3 [(63, .bool (decide (y13.1 < 0))), (62, .bool (decide (y13.1 < 0))), (61, .int .i64 (y13.1))] (by kernel_rfl) ?_
     refine wS_bool (decide (y13.1 < 0)) (fun hb5 => ?_) (fun hb5 => ?_)
     ·have hm := condT hb5 hm
      rewrite [hb5]
      refine wS_pure 10 [(73, .bool (true)), (72, undef), (71, undef), (70, undef), (69, .bool (true)), (68, .bool (true)), (67, undef), (66, undef), (65, undef), (64, undef)] (by kernel_rfl) ?_
      refine wS_end (by rfl) ?_
      refine eX_then ?_
      refine cW_prune [(3, .pointer (some ⟨b1, 0, none⟩)), (4, .pointer (some ⟨b2, 0, none⟩)), (5, .pointer (some ⟨b3, 0, none⟩)), (8, .slice A2 (y5.1).length cap2), (9, .bool (y5.2)), (11, .slice A4 (y9.1).length cap4), (73, .bool (true))] (by kernel_rfl) (by kernel_rfl) (fun a4 => ?_)
      refine cW_cond_t (by kernel_rfl) ?_
      refine cW_seq ?_
      refine cW_region ?_
      refine wS_pure 1 [(6, .bool (false))] (by kernel_rfl) ?_
      refine wS_end (by rfl) ?_
      refine eX_then ?_
      refine cW_ret ?_
      refine eX_then_ret ?_
      have hq : (some false : Option ((Bool))) = some _ := hm
      replace hq := someE hq
      subst hq
      refine eX_ret (vs := [.bool (false)]) [.tmp 6] (by rfl) ⟨by (show lkE _ _ _ = _); kernel_rfl, trivial⟩ ?_
      exact ⟨rfl, hB⟩
     ·have hm := condF hb5 hm
      rewrite [hb5]
      refine wS_pure 2 [(65, .slice A2 (y5.1).length cap2), (64, .slice A4 (y9.1).length cap4)] (by kernel_rfl) ?_
      obtain ⟨y14, hy14, hm⟩ := bindE hm
      refine wS_calls (d := 66) (f := 20) (vs := [.slice A4 (y9.1).length cap4, .slice A2 (y5.1).length cap2]) (by kernel_rfl) ent20 (c_laws_eqPointS hy14 (F9.sl encII_ok) (F5.sl encII_ok)) ?_
      rintro _ w22 ⟨rfl, hc22⟩
      replace F0_0 := F0_0.chg hc22 Dj.nil
      replace F1 := F1.chg hc22 notNil
      replace F2 := F2.chg hc22 notNil
      replace F3 := F3.chg hc22 notNil
      replace F4 := F4.chg hc22 Dj.nil
      replace F5 := F5.chg hc22 Dj.nil
      replace F11 := F11.chg hc22 Dj.nil
      replace F8 := F8.chg hc22 notNil
      replace F9 := F9.chg hc22 Dj.nil
      replace F10 := F10.chg hc22 Dj.nil
      replace hB := hB.inS hc22 inNil
      replace hZ := Nat.le_trans hZ hc22.size
      refine ⟨.bool (y14), rfl, ?_⟩
      refine wS_pure 3 [(69, .bool (!y14)), (68, .bool (!y14)), (67, .bool (!y14))] (by kernel_rfl) ?_
      refine wS_bool (!y14) (fun hb6 => ?_) (fun hb6 => ?_)
      ·have hm := condT hb6 hm
       rewrite [hb6]
       refine wS_pure 4 [(73, .bool (true)), (72, undef), (71, undef), (70, undef)] (by kernel_rfl) ?_
       refine wS_end (by rfl) ?_
       refine eX_then ?_
       refine cW_prune [(3, .pointer (some ⟨b1, 0, none⟩)), (4, .pointer (some ⟨b2, 0, none⟩)), (5, .pointer (some ⟨b3, 0, none⟩)), (8, .slice A2 (y5.1).length cap2), (9, .bool (y5.2)), (11, .slice A4 (y9.1).length cap4), (73, .bool (true))] (by kernel_rfl) (by kernel_rfl) (fun a5 => ?_)
       refine cW_cond_t (by kernel_rfl) ?_
       refine cW_seq ?_
       refine cW_region ?_
       refine wS_pure 1 [(6, .bool (false))] (by kernel_rfl) ?_
       refine wS_end (by rfl) ?_
       refine eX_then ?_
       refine cW_ret ?_
       refine eX_then_ret ?_
       have hq : (some false : Option ((Bool))) = some _ := hm
       replace hq := someE hq
       subst hq
       refine eX_ret (vs := [.bool (false)]) [.tmp 6] (by rfl) ⟨by (show lkE _ _ _ = _); kernel_rfl, trivial⟩ ?_
       exact ⟨rfl, hB⟩
      ·have hm := condF hb6 hm
       rewrite [hb6]
       refine wS_pure 4 [(73, .bool (!(y9.2 == y5.2))), (72, .bool (!(y9.2 == y5.2))), (71, .bool (y5.2)), (70, .bool (y9.2))] (by kernel_rfl) ?_
       refine wS_end (by rfl) ?_
       refine eX_then ?_
       refine cW_prune [(3, .pointer (some ⟨b1, 0, none⟩)), (4, .pointer (some ⟨b2, 0, none⟩)), (5, .pointer (some ⟨b3, 0, none⟩)), (8, .slice A2 (y5.1).length cap2), (9, .bool (y5.2)), (11, .slice A4 (y9.1).length cap4), (73, .bool (!(y9.2 == y5.2)))] (by kernel_rfl) (by kernel_rfl) (fun a6 => ?_)
       refine cW_cond (t := !(y9.2 == y5.2)) (by kernel_rfl) (fun hb7 => ?_) (fun hb7 => ?_)
       ·have hm := condT hb7 hm
        refine cW_seq ?_
        refine cW_region ?_
        refine wS_pure 1 [(6, .bool (false))] (by kernel_rfl) ?_
        refine wS_end (by rfl) ?_
        refine eX_then ?_
        refine cW_ret ?_
        refine eX_then_ret ?_
        have hq : (some false : Option ((Bool))) = some _ := hm
        replace hq := someE hq
        subst hq
        refine eX_ret (vs := [.bool (false)]) [.tmp 6] (by rfl) ⟨by (show lkE _ _ _ = _); kernel_rfl, trivial⟩ ?_
        exact ⟨rfl, hB⟩
       ·have hm := condF hb7 hm
        refine cW_skip ?_
        refine eX_then ?_
        refine cW_seq ?_
        refine cW_region ?_
        refine wS_pure 1 [(14, .int .i64 (1))] (by kernel_rfl) ?_
        refine wS_end (by rfl) ?_
        refine eX_then ?_
        refine cW_seq ?_
        refine cW_region ?_
        refine wS_pure 2 [(75, .int .i64 (1)), (74, .slice A4 (y9.1).length cap4)] (by kernel_rfl) ?_
        obtain ⟨y15, hy15, hm⟩ := bindE hm
        refine wS_calls (d := 76) (f := 22) (vs := [.slice A4 (y9.1).length cap4, .int .i64 (1)]) (by kernel_rfl) ent22 (c_laws_markPointS hy15 F9) ?_
        rintro _ w23 ⟨rfl, F12, hl2, hc23⟩
        replace F0_0 := F0_0.chg hc23 (Dj.app (Dj.of L0_0 G8) Dj.nil)
        replace F1 := F1.chg hc23 (dj1 (Dj.app D22 Dj.nil))
        replace F2 := F2.chg hc23 (dj1 (Dj.app D23 Dj.nil))
        replace F3 := F3.chg hc23 (dj1 (Dj.app D24 Dj.nil))
        replace F4 := F4.chg hc23 (Dj.app D25 Dj.nil)
        replace F5 := F5.chg hc23 (Dj.app D26 Dj.nil)
        replace F11 := F11.chg hc23 (Dj.app D27 Dj.nil)
        replace F8 := F8.chg hc23 (dj1 (Dj.app D28 Dj.nil))
        replace F10 := F10.chg hc23 (Dj.app (D36).symm Dj.nil)
        replace hB := hB.inS hc23 (inApp (inLow G8) inNil)
        replace hZ := Nat.le_trans hZ hc23.size
        clear F9
        refine ⟨.int .i64 (y15.1), rfl, ?_⟩
        rewrite [(show (y9.1).length = (y15.2).length from hl2.symm)]
        try rewrite [(show (y9.1).length = (y15.2).length from hl2.symm)] at F1
        try rewrite [(show (y9.1).length = (y15.2).length from hl2.symm)] at F8
        refine wS_pure 1 [(14, .int .i64 (y15.1))] (by kernel_rfl) ?_
        refine wS_end (by rfl) ?_
        refine eX_then ?_
        refine cW_seq ?_
        refine cW_region ?_
        refine wS_pure 1 [(15, .int .i64 (1))] (by kernel_rfl) ?_
        refine wS_end (by rfl) ?_
        refine eX_then ?_
        refine cW_seq ?_
        refine cW_region ?_
        refine wS_pure 2 [(78, .int .i64 (1)), (77, .slice A4 (y15.2).length cap4)] (by kernel_rfl) ?_
        obtain ⟨y16, hy16, hm⟩ := bindE hm
        refine wS_calls (d := 79) (f := 23) (vs := [.slice A4 (y15.2).length cap4, .int .i64 (1)]) (by kernel_rfl) ent23 (c_laws_heldPointS hy16 (F12.sl encII_ok)) ?_
        rintro _ w24 ⟨rfl, hc24⟩
        replace F0_0 := F0_0.chg hc24 Dj.nil
        replace F1 := F1.chg hc24 notNil
        replace F2 := F2.chg hc24 notNil
        replace F3 := F3.chg hc24 notNil
        replace F4 := F4.chg hc24 Dj.nil
        replace F5 := F5.chg hc24 Dj.nil
        replace F11 := F11.chg hc24 Dj.nil
        replace F8 := F8.chg hc24 notNil
        replace F12 := F12.chg hc24 Dj.nil
        replace F10 := F10.chg hc24 Dj.nil
        replace hB := hB.inS hc24 inNil
        replace hZ := Nat.le_trans hZ hc24.size
        refine ⟨.int .i64 (y16), rfl, ?_⟩
        refine wS_pure 1 [(15, .int .i64 (y16))] (by kernel_rfl) ?_
        refine wS_end (by rfl) ?_
        refine eX_then ?_
        refine cW_seq ?_
        refine cW_seq ?_
        refine cW_region ?_
        refine wS_pure 2 [(81, .bool (decide (y16 < 0))), (80, .int .i64 (y16))] (by kernel_rfl) ?_
        refine wS_end (by rfl) ?_
        refine eX_then ?_
        refine cW_cond (t := decide (y16 < 0)) (by kernel_rfl) (fun hb8 => ?_) (fun hb8 => ?_)
        ·have hm := condT hb8 hm
         refine cW_seq ?_
         refine cW_region ?_
         refine wS_pure 1 [(6, .bool (false))] (by kernel_rfl) ?_
         refine wS_end (by rfl) ?_
         refine eX_then ?_
         refine cW_ret ?_
         refine eX_then_ret ?_
         have hq : (some false : Option ((Bool))) = some _ := hm
         replace hq := someE hq
         subst hq
         refine eX_ret (vs := [.bool (false)]) [.tmp 6] (by rfl) ⟨by (show lkE _ _ _ = _); kernel_rfl, trivial⟩ ?_
         exact ⟨rfl, hB⟩
        ·have hm := condF hb8 hm
         refine cW_skip ?_
         refine eX_then ?_
         refine cW_seq ?_
         refine cW_seq ?_
         refine cW_region ?_
         refine wS_pure 3 [(84, .bool (y16 != y15.1)), (83, .int .i64 (y15.1)), (82, .int .i64 (y16))] (by kernel_rfl) ?_
         refine wS_end (by rfl) ?_
         refine eX_then ?_
         refine cW_cond (t := y16 != y15.1) (by kernel_rfl) (fun hb9 => ?_) (fun hb9 => ?_)
         ·have hm := condT hb9 hm
          refine cW_seq ?_
          refine cW_region ?_
          refine wS_pure 1 [(6, .bool (false))] (by kernel_rfl) ?_
          refine wS_end (by rfl) ?_
          refine eX_then ?_
          refine cW_ret ?_
          refine eX_then_ret ?_
          have hq : (some false : Option ((Bool))) = some _ := hm
          replace hq := someE hq
          subst hq
          refine eX_ret (vs := [.bool (false)]) [.tmp 6] (by rfl) ⟨by (show lkE _ _ _ = _); kernel_rfl, trivial⟩ ?_
          exact ⟨rfl, hB⟩
         ·have hm := condF hb9 hm
          refine cW_skip ?_
          refine eX_then ?_
          refine cW_seq ?_
          refine cW_drawnTail [] 11 (by kernel_rfl) (by kernel_rfl) (fun w25 hc25 => ?_)
          replace F0_0 := F0_0.chg hc25 Dj.nil
          replace F1 := F1.chg hc25 notNil
          replace F2 := F2.chg hc25 notNil
          replace F3 := F3.chg hc25 notNil
          replace F4 := F4.chg hc25 Dj.nil
          replace F5 := F5.chg hc25 Dj.nil
          replace F11 := F11.chg hc25 Dj.nil
          replace F8 := F8.chg hc25 notNil
          replace F12 := F12.chg hc25 Dj.nil
          replace F10 := F10.chg hc25 Dj.nil
          replace hB := hB.inS hc25 inNil
          replace hZ := Nat.le_trans hZ hc25.size
          have hS := Chg.refl [] w25
          have Z22 := F0_0
          have Z23 := F1
          have Z24 := F2
          have Z25 := F3
          have Z26 := F4
          have Z27 := F5
          have Z28 := F11
          have Z29 := F8
          have Z30 := F12
          have Z31 := F10
          refine wH_loadA (i := 0) (d := 86) (T := 41) (ad := ⟨b1, 0, none⟩) (vs := [.slice A0_0 (l0_0).length cap0_0]) (by kernel_rfl) (qT (qT qZ)) (by kernel_rfl) (by kernel_rfl) vt41 (fun W hW i u hu => box_cells (Z23.chg hW notNil) 0 hu (by rfl)) ?_
          refine wH_loadA (i := 2) (d := 88) (T := 42) (ad := ⟨b2, 0, none⟩) (vs := [.int .i64 (p1_0), .int .i64 (p1_1)]) (by kernel_rfl) (qT (qT qZ)) (by kernel_rfl) (by kernel_rfl) vt42 (fun W hW i u hu => box_cells (Z24.chg hW notNil) 0 hu (by rfl)) ?_
          refine wH_loadA (i := 4) (d := 90) (T := 42) (ad := ⟨b3, 0, none⟩) (vs := [.int .i64 (p2_0), .int .i64 (p2_1)]) (by kernel_rfl) (qT (qT qZ)) (by kernel_rfl) (by kernel_rfl) vt42 (fun W hW i u hu => box_cells (Z25.chg hW notNil) 0 hu (by rfl)) ?_
          refine wH_all [1] (by rfl) (by kernel_rfl) (by simp) ⟨⟨by kernel_rfl, ?_⟩, trivial⟩
          obtain ⟨y17, hy17, hm⟩ := bindE hm
          refine wS_calls (d := 87) (f := 16) (vs := [.agg #[.slice A0_0 (l0_0).length cap0_0]]) (by kernel_rfl) ent16 (c_laws_toMaze hy17 F0_0) ?_
          rintro _ w26 ⟨A6, cap6, fp6, fr4, rfl, F13, G10, hc26⟩
          have D37 : Dj [b1] (fp6 ++ fr4) := Dj.of (lt1 F1.lt) G10
          have D38 : Dj [b2] (fp6 ++ fr4) := Dj.of (lt1 F2.lt) G10
          have D39 : Dj [b3] (fp6 ++ fr4) := Dj.of (lt1 F3.lt) G10
          have D40 : Dj (fp1 ++ fr1) (fp6 ++ fr4) := Dj.of F4.low G10
          have D41 : Dj fp2 (fp6 ++ fr4) := Dj.of F5.low G10
          have D42 : Dj (fp3 ++ fr2) (fp6 ++ fr4) := Dj.of F11.low G10
          have D43 : Dj [b4] (fp6 ++ fr4) := Dj.of (lt1 F8.lt) G10
          have D44 : Dj fp4 (fp6 ++ fr4) := Dj.of F12.low G10
          have D45 : Dj (fp5 ++ fr3) (fp6 ++ fr4) := Dj.of F10.low G10
          replace F0_0 := F0_0.chg hc26 Dj.nil
          replace F1 := F1.chg hc26 notNil
          replace F2 := F2.chg hc26 notNil
          replace F3 := F3.chg hc26 notNil
          replace F4 := F4.chg hc26 Dj.nil
          replace F5 := F5.chg hc26 Dj.nil
          replace F11 := F11.chg hc26 Dj.nil
          replace F8 := F8.chg hc26 notNil
          replace F12 := F12.chg hc26 Dj.nil
          replace F10 := F10.chg hc26 Dj.nil
          replace hB := hB.inS hc26 inNil
          have hSz := hS
          replace hS := hS.inS hc26 inNil
          replace G10 := low_le hZ G10
          replace hZ := Nat.le_trans hZ hc26.size
          refine ⟨.agg #[.slice A6 (y17).length cap6], rfl, ?_⟩
          refine wS_end (by kernel_rfl) ?_
          refine eX_KH hS ?_
          refine wH_all [3] (by rfl) (by kernel_rfl) (by simp) ⟨⟨by kernel_rfl, ?_⟩, trivial⟩
          obtain ⟨y18, hy18, hm⟩ := bindE hm
          refine wS_calls (d := 89) (f := 17) (vs := [.agg #[.int .i64 (p1_0), .int .i64 (p1_1)]]) (by kernel_rfl) ent17 (c_laws_toPoint hy18) ?_
          rintro _ w27 ⟨rfl, hc27⟩
          replace F0_0 := F0_0.chg hc27 Dj.nil
          replace F1 := F1.chg hc27 notNil
          replace F2 := F2.chg hc27 notNil
          replace F3 := F3.chg hc27 notNil
          replace F4 := F4.chg hc27 Dj.nil
          replace F5 := F5.chg hc27 Dj.nil
          replace F11 := F11.chg hc27 Dj.nil
          replace F8 := F8.chg hc27 notNil
          replace F12 := F12.chg hc27 Dj.nil
          replace F10 := F10.chg hc27 Dj.nil
          replace F13 := F13.chg hc27 Dj.nil
          replace hB := hB.inS hc27 inNil
          have hSz := hS
          replace hS := hS.inS hc27 inNil
          replace hZ := Nat.le_trans hZ hc27.size
          refine ⟨.agg #[.int .i64 (y18.1), .int .i64 (y18.2)], rfl, ?_⟩
          refine wS_end (by kernel_rfl) ?_
          refine eX_KH hS ?_
          refine wH_all [5] (by rfl) (by kernel_rfl) (by simp) ⟨⟨by kernel_rfl, ?_⟩, trivial⟩
          obtain ⟨y19, hy19, hm⟩ := bindE hm
          refine wS_calls (d := 91) (f := 17) (vs := [.agg #[.int .i64 (p2_0), .int .i64 (p2_1)]]) (by kernel_rfl) ent17 (c_laws_toPoint hy19) ?_
          rintro _ w28 ⟨rfl, hc28⟩
          replace F0_0 := F0_0.chg hc28 Dj.nil
          replace F1 := F1.chg hc28 notNil
          replace F2 := F2.chg hc28 notNil
          replace F3 := F3.chg hc28 notNil
          replace F4 := F4.chg hc28 Dj.nil
          replace F5 := F5.chg hc28 Dj.nil
          replace F11 := F11.chg hc28 Dj.nil
          replace F8 := F8.chg hc28 notNil
          replace F12 := F12.chg hc28 Dj.nil
          replace F10 := F10.chg hc28 Dj.nil
          replace F13 := F13.chg hc28 Dj.nil
          replace hB := hB.inS hc28 inNil
          have hSz := hS
          replace hS := hS.inS hc28 inNil
          replace hZ := Nat.le_trans hZ hc28.size
          refine ⟨.agg #[.int .i64 (y19.1), .int .i64 (y19.2)], rfl, ?_⟩
          refine wS_end (by kernel_rfl) ?_
          refine eX_KH hS ?_
          refine wH_all [6] (by rfl) (by kernel_rfl) (by simp) ⟨⟨by kernel_rfl, ?_⟩, trivial⟩
          obtain ⟨y20, hy20, hm⟩ := bindE hm
          refine wS_calls (d := 92) (f := 9) (vs := [.agg #[.slice A6 (y17).length cap6], .agg #[.int .i64 (y18.1), .int .i64 (y18.2)], .agg #[.int .i64 (y19.1), .int .i64 (y19.2)]]) (by kernel_rfl) ent9 (c_impl_FewestBlocks hy20 (F13.slr encI_ok)) ?_
          rintro _ w29 ⟨A7, cap7, fp7, rfl, F14, G11, hc29⟩
          have D46 : Dj [b1] fp7 := Dj.of (lt1 F1.lt) G11
          have D47 : Dj [b2] fp7 := Dj.of (lt1 F2.lt) G11
          have D48 : Dj [b3] fp7 := Dj.of (lt1 F3.lt) G11
          have D49 : Dj (fp1 ++ fr1) fp7 := Dj.of F4.low G11
          have D50 : Dj fp2 fp7 := Dj.of F5.low G11
          have D51 : Dj (fp3 ++ fr2) fp7 := Dj.of F11.low G11
          have D52 : Dj [b4] fp7 := Dj.of (lt1 F8.lt) G11
          have D53 : Dj fp4 fp7 := Dj.of F12.low G11
          have D54 : Dj (fp5 ++ fr3) fp7 := Dj.of F10.low G11
          have D55 : Dj (fp6 ++ fr4) fp7 := Dj.of F13.low G11
          replace F0_0 := F0_0.chg hc29 Dj.nil
          replace F1 := F1.chg hc29 notNil
          replace F2 := F2.chg hc29 notNil
          replace F3 := F3.chg hc29 notNil
          replace F4 := F4.chg hc29 Dj.nil
          replace F5 := F5.chg hc29 Dj.nil
          replace F11 := F11.chg hc29 Dj.nil
          replace F8 := F8.chg hc29 notNil
          replace F12 := F12.chg hc29 Dj.nil
          replace F10 := F10.chg hc29 Dj.nil
          replace F13 := F13.chg hc29 Dj.nil
          replace hB := hB.inS hc29 inNil
          have hSz := hS
          replace hS := hS.inS hc29 inNil
          replace G11 := low_le hZ G11
          replace hZ := Nat.le_trans hZ hc29.size
          refine ⟨.tuple #[.slice A7 (y20.1).length cap7, .bool (y20.2)], rfl, ?_⟩
          refine wS_end (by kernel_rfl) ?_
          refine eX_KH hS ?_
          refine wH_take [7, 8, 9, 10] [10, 9, 8, 7, 6, 5, 3, 1, 4, 2, 0] [(16, .slice A7 (y20.1).length cap7), (94, .bool (y20.2)), (93, .slice A7 (y20.1).length cap7), (85, .tuple #[.slice A7 (y20.1).length cap7, .bool (y20.2)])] (by kernel_rfl) (qT (qT qZ)) (by kernel_rfl) ?_
          refine wH_done (by kernel_rfl) ?_
          refine eX_tail ?_
          refine wS_pure 1 [(17, .bool (y20.2))] (by kernel_rfl) ?_
          refine wS_end (by rfl) ?_
          refine eX_then ?_
          refine cW_prune [(8, .slice A2 (y5.1).length cap2), (9, .bool (y5.2)), (11, .slice A4 (y15.2).length cap4), (14, .int .i64 (y15.1)), (16, .slice A7 (y20.1).length cap7), (17, .bool (y20.2))] (by kernel_rfl) (by kernel_rfl) (fun a7 => ?_)
          refine cW_seq ?_
          refine cW_seq ?_
          refine cW_region ?_
          refine wS_pure 2 [(96, .slice A2 (y5.1).length cap2), (95, .slice A7 (y20.1).length cap7)] (by kernel_rfl) ?_
          obtain ⟨y21, hy21, hm⟩ := bindE hm
          refine wS_calls (d := 97) (f := 20) (vs := [.slice A7 (y20.1).length cap7, .slice A2 (y5.1).length cap2]) (by kernel_rfl) ent20 (c_laws_eqPointS hy21 (F14.sl encII_ok) (F5.sl encII_ok)) ?_
          rintro _ w30 ⟨rfl, hc30⟩
          replace F0_0 := F0_0.chg hc30 Dj.nil
          replace F1 := F1.chg hc30 notNil
          replace F2 := F2.chg hc30 notNil
          replace F3 := F3.chg hc30 notNil
          replace F4 := F4.chg hc30 Dj.nil
          replace F5 := F5.chg hc30 Dj.nil
          replace F11 := F11.chg hc30 Dj.nil
          replace F8 := F8.chg hc30 notNil
          replace F12 := F12.chg hc30 Dj.nil
          replace F10 := F10.chg hc30 Dj.nil
          replace F13 := F13.chg hc30 Dj.nil
          replace F14 := F14.chg hc30 Dj.nil
          replace hB := hB.inS hc30 inNil
          replace hZ := Nat.le_trans hZ hc30.size
          refine ⟨.bool (y21), rfl, ?_⟩
          refine wS_pure 2 [(99, .bool (!y21)), (98, .bool (!y21))] (by kernel_rfl) ?_
          refine wS_bool (!y21) (fun hb10 => ?_) (fun hb10 => ?_)
          ·have hm := condT hb10 hm
           rewrite [hb10]
           refine wS_pure 4 [(103, .bool (true)), (102, undef), (101, undef), (100, undef)] (by kernel_rfl) ?_
           refine wS_end (by rfl) ?_
           refine eX_then ?_
           refine cW_cond_t (by kernel_rfl) ?_
           refine cW_seq ?_
           refine cW_region ?_
           refine wS_pure 1 [(6, .bool (false))] (by kernel_rfl) ?_
           refine wS_end (by rfl) ?_
           refine eX_then ?_
           refine cW_ret ?_
           refine eX_then_ret ?_
           have hq : (some false : Option ((Bool))) = some _ := hm
           replace hq := someE hq
           subst hq
           refine eX_ret (vs := [.bool (false)]) [.tmp 6] (by rfl) ⟨by (show lkE _ _ _ = _); kernel_rfl, trivial⟩ ?_
           exact ⟨rfl, hB⟩
          ·have hm := condF hb10 hm
           rewrite [hb10]
           refine wS_pure 4 [(103, .bool (!(y20.2 == y5.2))), (102, .bool (!(y20.2 == y5.2))), (101, .bool (y5.2)), (100, .bool (y20.2))] (by kernel_rfl) ?_
           refine wS_end (by rfl) ?_
           refine eX_then ?_
           refine cW_cond (t := !(y20.2 == y5.2)) (by kernel_rfl) (fun hb11 => ?_) (fun hb11 => ?_)
           ·have hm := condT hb11 hm
            refine cW_seq ?_
            refine cW_region ?_
            refine wS_pure 1 [(6, .bool (false))] (by kernel_rfl) ?_
            refine wS_end (by rfl) ?_
            refine eX_then ?_
            refine cW_ret ?_
            refine eX_then_ret ?_
            have hq : (some false : Option ((Bool))) = some _ := hm
            replace hq := someE hq
            subst hq
            refine eX_ret (vs := [.bool (false)]) [.tmp 6] (by rfl) ⟨by (show lkE _ _ _ = _); kernel_rfl, trivial⟩ ?_
            exact ⟨rfl, hB⟩
           ·have hm := condF hb11 hm
            refine cW_skip ?_
            refine eX_then ?_
            refine cW_seq ?_
            refine cW_region ?_
            refine wS_pure 1 [(15, .int .i64 (1))] (by kernel_rfl) ?_
            refine wS_end (by rfl) ?_
            refine eX_then ?_
            refine cW_seq ?_
            refine cW_region ?_
            refine wS_pure 2 [(105, .int .i64 (1)), (104, .slice A4 (y15.2).length cap4)] (by kernel_rfl) ?_
            obtain ⟨y22, hy22, hm⟩ := bindE hm
            refine wS_calls (d := 106) (f := 23) (vs := [.slice A4 (y15.2).length cap4, .int .i64 (1)]) (by kernel_rfl) ent23 (c_laws_heldPointS hy22 (F12.sl encII_ok)) ?_
            rintro _ w31 ⟨rfl, hc31⟩
            replace F0_0 := F0_0.chg hc31 Dj.nil
            replace F1 := F1.chg hc31 notNil
            replace F2 := F2.chg hc31 notNil
            replace F3 := F3.chg hc31 notNil
            replace F4 := F4.chg hc31 Dj.nil
            replace F5 := F5.chg hc31 Dj.nil
            replace F11 := F11.chg hc31 Dj.nil
            replace F8 := F8.chg hc31 notNil
            replace F12 := F12.chg hc31 Dj.nil
            replace F10 := F10.chg hc31 Dj.nil
            replace F13 := F13.chg hc31 Dj.nil
            replace F14 := F14.chg hc31 Dj.nil
            replace hB := hB.inS hc31 inNil
            replace hZ := Nat.le_trans hZ hc31.size
            refine ⟨.int .i64 (y22), rfl, ?_⟩
            refine wS_pure 1 [(15, .int .i64 (y22))] (by kernel_rfl) ?_
            refine wS_end (by rfl) ?_
            refine eX_then ?_
            refine cW_seq ?_
            refine cW_seq ?_
            refine cW_region ?_
            refine wS_pure 2 [(108, .bool (decide (y22 < 0))), (107, .int .i64 (y22))] (by kernel_rfl) ?_
            refine wS_end (by rfl) ?_
            refine eX_then ?_
            refine cW_cond (t := decide (y22 < 0)) (by kernel_rfl) (fun hb12 => ?_) (fun hb12 => ?_)
            ·have hm := condT hb12 hm
             refine cW_seq ?_
             refine cW_region ?_
             refine wS_pure 1 [(6, .bool (false))] (by kernel_rfl) ?_
             refine wS_end (by rfl) ?_
             refine eX_then ?_
             refine cW_ret ?_
             refine eX_then_ret ?_
             have hq : (some false : Option ((Bool))) = some _ := hm
             replace hq := someE hq
             subst hq
             refine eX_ret (vs := [.bool (false)]) [.tmp 6] (by rfl) ⟨by (show lkE _ _ _ = _); kernel_rfl, trivial⟩ ?_
             exact ⟨rfl, hB⟩
            ·have hm := condF hb12 hm
             refine cW_skip ?_
             refine eX_then ?_
             refine cW_seq ?_
             refine cW_seq ?_
             refine cW_region ?_
             refine wS_pure 3 [(111, .bool (y22 != y15.1)), (110, .int .i64 (y15.1)), (109, .int .i64 (y22))] (by kernel_rfl) ?_
             refine wS_end (by rfl) ?_
             refine eX_then ?_
             refine cW_prune [(111, .bool (y22 != y15.1))] (by kernel_rfl) (by kernel_rfl) (fun a8 => ?_)
             refine cW_cond (t := y22 != y15.1) (by kernel_rfl) (fun hb13 => ?_) (fun hb13 => ?_)
             ·have hm := condT hb13 hm
              refine cW_seq ?_
              refine cW_region ?_
              refine wS_pure 1 [(6, .bool (false))] (by kernel_rfl) ?_
              refine wS_end (by rfl) ?_
              refine eX_then ?_
              refine cW_ret ?_
              refine eX_then_ret ?_
              have hq : (some false : Option ((Bool))) = some _ := hm
              replace hq := someE hq
              subst hq
              refine eX_ret (vs := [.bool (false)]) [.tmp 6] (by rfl) ⟨by (show lkE _ _ _ = _); kernel_rfl, trivial⟩ ?_
              exact ⟨rfl, hB⟩
             ·have hm := condF hb13 hm
              refine cW_skip ?_
              refine eX_then ?_
              refine cW_seq ?_
              refine cW_region ?_
              refine wS_pure 1 [(6, .bool (true))] (by kernel_rfl) ?_
              refine wS_end (by rfl) ?_
              refine eX_then ?_
              refine cW_ret ?_
              have hq : (some true : Option ((Bool))) = some _ := hm
              replace hq := someE hq
              subst hq
              refine eX_ret (vs := [.bool (true)]) [.tmp 6] (by rfl) ⟨by (show lkE _ _ _ = _); kernel_rfl, trivial⟩ ?_
              exact ⟨rfl, hB⟩

end Go.Proofs.Ytcknpoeannbpbaa
