/- Printed walks: laws.FnMerges. -/
import Derived.Test.YtajnjbmniobjhaaProg
import Derived.Test.YtajnjbmniobjhaaWMg01
set_option linter.unusedSimpArgs false
set_option linter.unusedVariables false
namespace Go.Proofs.Ytajnjbmniobjhaa
open Go.RowKit
attribute [local irreducible] wS cW eX wH

theorem ent17 : Ent Try.prog 17 := fun _ => by kernel_rfl
theorem ent18 : Ent Try.prog 18 := fun _ => by kernel_rfl
theorem ent19 : Ent Try.prog 19 := fun _ => by kernel_rfl
theorem ent20 : Ent Try.prog 20 := fun _ => by kernel_rfl
theorem ent22 : Ent Try.prog 22 := fun _ => by kernel_rfl
theorem ent23 : Ent Try.prog 23 := fun _ => by kernel_rfl
theorem eq25 : ∃ f0 f1 f2 f3, EqTy4 Try.prog 25 f0 f1 f2 f3 := ⟨_, _, _, _, Try.underlying25, by kernel_rfl, by kernel_rfl, by kernel_rfl, by kernel_rfl, by kernel_rfl, fun w => pureRun_run (by kernel_rfl) w, fun w => pureRun_run (by kernel_rfl) w, fun w => pureRun_run (by kernel_rfl) w, fun w => pureRun_run (by kernel_rfl) w, rfl, rfl, rfl, rfl, Try.underlying2, Try.underlying2, Try.underlying2, Try.underlying2, by kernel_rfl⟩

set_option maxRecDepth 100000 in
/-- laws.FnMerges -/
theorem c_laws_FnMerges {w0 : World} {l0 : List (Int)} {A0 : Option Addr} {cap0 : Nat} {fp0 : List Nat} {l1 : List (Int)} {A1 : Option Addr} {cap1 : Nat} {fp1 : List Nat} {r : (Bool)} (hm : m_laws_FnMerges l0 l1 = some r) (F0 : Sl 1 encU w0 fp0 A0 l0) (F1 : Sl 1 encU w0 fp1 A1 l1) :
    Calls Try.prog 3 #[.slice A0 (l0).length cap0, .slice A1 (l1).length cap1] w0 fun e w' => e = .returned (.bool (r)) ∧ Chg [] w0 w' := by
  have L0 := F0.low
  have L1 := F1.low
  have hB : Chg [] w0 w0 := Chg.refl _ _
  have hZ := Nat.le_refl w0.heap.size
  unfold m_laws_FnMerges at hm
  refine enterE (N := 206) Try.func3 (by rfl) Try.ntmps3 (by simp) [(0, .slice A0 (l0).length cap0), (1, .slice A1 (l1).length cap1)] (by rfl) (by kernel_rfl) (fun a => ?_)
  refine cW_seq ?_
  refine cW_region ?_
  refine wS_pure 1 [(4, .bool (false))] (by kernel_rfl) ?_
  refine wS_end (by rfl) ?_
  refine eX_then ?_
  refine cW_seq ?_
  refine cW_seq ?_
  refine cW_region ?_
  refine wS_pure 2 [(25, .slice A1 (l1).length cap1), (24, .slice A0 (l0).length cap0)] (by kernel_rfl) ?_
  obtain ⟨y3, hy4, hm⟩ := bindE hm
  refine wS_calls (d := 26) (f := 17) (vs := [.slice A0 (l0).length cap0, .slice A1 (l1).length cap1]) (by kernel_rfl) ent17 (c_laws_r8Long hy4 F0 F1) ?_
  rintro _ w5 ⟨rfl, hc6⟩
  replace F0 := F0.chg hc6 Dj.nil
  replace F1 := F1.chg hc6 Dj.nil
  replace hB := hB.inS hc6 inNil
  replace hZ := Nat.le_trans hZ hc6.size
  refine ⟨.bool (y3), rfl, ?_⟩
  refine wS_end (by rfl) ?_
  refine eX_then ?_
  refine cW_cond (t := y3) (by kernel_rfl) (fun hb7 => ?_) (fun hb7 => ?_)
  · have hm := condT hb7 hm
    refine cW_seq ?_
    refine cW_region ?_
    refine wS_pure 1 [(4, .bool (true))] (by kernel_rfl) ?_
    refine wS_end (by rfl) ?_
    refine eX_then ?_
    refine cW_ret ?_
    refine eX_then_ret ?_
    have hq : (some true : Option ((Bool))) = some _ := hm
    replace hq := someE hq
    subst hq
    refine eX_ret (vs := [.bool (true)]) [.tmp 4] (by rfl) ⟨by (show lkE _ _ _ = _); kernel_rfl, trivial⟩ ?_
    exact ⟨rfl, hB⟩
  · have hm := condF hb7 hm
    refine cW_skip ?_
    refine eX_then ?_
    refine cW_seq ?_
    refine cW_region ?_
    refine wS_pure 1 [(27, .slice A0 (l0).length cap0)] (by kernel_rfl) ?_
    obtain ⟨y8, hy9, hm⟩ := bindE hm
    refine wS_calls (d := 28) (f := 18) (vs := [.slice A0 (l0).length cap0]) (by kernel_rfl) ent18 (c_spec_R8Merge hy9 F0) ?_
    rintro _ w10 ⟨rfl, hc11⟩
    replace F0 := F0.chg hc11 Dj.nil
    replace F1 := F1.chg hc11 Dj.nil
    replace hB := hB.inS hc11 inNil
    replace hZ := Nat.le_trans hZ hc11.size
    refine ⟨.agg #[.int .i64 (y8.1), .int .i64 (y8.2.1), .int .i64 (y8.2.2.1), .int .i64 (y8.2.2.2.1), .int .i64 (y8.2.2.2.2)], rfl, ?_⟩
    refine wS_alloc (d := 5) (T := 27) (z := .agg #[.int .i64 (0), .int .i64 (0), .int .i64 (0), .int .i64 (0), .int .i64 (0)]) (by kernel_rfl) (by kernel_rfl) ?_
    intro b12 w13 G14 F15 hc16
    replace F15 : Cl w13 b12 27 [.int .i64 (0), .int .i64 (0), .int .i64 (0), .int .i64 (0), .int .i64 (0)] := F15
    replace F0 := F0.chg hc16 Dj.nil
    replace F1 := F1.chg hc16 Dj.nil
    replace hB := hB.inS hc16 inNil
    replace G14 := Nat.le_trans hZ G14
    replace hZ := Nat.le_trans hZ hc16.size
    refine wS_store (T := 27) (g := b12) (o := 0) (ad := ⟨b12, 0, none⟩) (v := .agg #[.int .i64 (y8.1), .int .i64 (y8.2.1), .int .i64 (y8.2.2.1), .int .i64 (y8.2.2.2.1), .int .i64 (y8.2.2.2.2)]) (vs := [.int .i64 (y8.1), .int .i64 (y8.2.1), .int .i64 (y8.2.2.1), .int .i64 (y8.2.2.2.1), .int .i64 (y8.2.2.2.2)]) (by kernel_rfl) (by rfl) sz27 (by rfl) (by rfl) F15 (by simp only [List.length_cons, List.length_nil]; omega) ?_
    intro w18 F19 hc20
    replace F0 := F0.chg hc20 (Dj.of L0 (low1 G14))
    replace F1 := F1.chg hc20 (Dj.of L1 (low1 G14))
    replace hB := hB.inS hc20 (inLow (low1 G14))
    replace hZ := Nat.le_trans hZ hc20.size
    replace F19 : Cl w18 b12 27 [.int .i64 (y8.1), .int .i64 (y8.2.1), .int .i64 (y8.2.2.1), .int .i64 (y8.2.2.2.1), .int .i64 (y8.2.2.2.2)] := F19
    clear F15
    refine wS_end (by rfl) ?_
    refine eX_then ?_
    refine cW_seq ?_
    refine cW_region ?_
    refine wS_pure 1 [(29, .slice A1 (l1).length cap1)] (by kernel_rfl) ?_
    obtain ⟨y21, hy22, hm⟩ := bindE hm
    refine wS_calls (d := 30) (f := 18) (vs := [.slice A1 (l1).length cap1]) (by kernel_rfl) ent18 (c_spec_R8Merge hy22 F1) ?_
    rintro _ w23 ⟨rfl, hc24⟩
    replace F0 := F0.chg hc24 Dj.nil
    replace F1 := F1.chg hc24 Dj.nil
    replace F19 := F19.chg hc24 notNil
    replace hB := hB.inS hc24 inNil
    replace hZ := Nat.le_trans hZ hc24.size
    refine ⟨.agg #[.int .i64 (y21.1), .int .i64 (y21.2.1), .int .i64 (y21.2.2.1), .int .i64 (y21.2.2.2.1), .int .i64 (y21.2.2.2.2)], rfl, ?_⟩
    refine wS_alloc (d := 6) (T := 27) (z := .agg #[.int .i64 (0), .int .i64 (0), .int .i64 (0), .int .i64 (0), .int .i64 (0)]) (by kernel_rfl) (by kernel_rfl) ?_
    intro b25 w26 G27 F28 hc29
    replace F28 : Cl w26 b25 27 [.int .i64 (0), .int .i64 (0), .int .i64 (0), .int .i64 (0), .int .i64 (0)] := F28
    have D31 : Dj [b12] [b25] := Dj.of (lt1 F19.lt) (low1 G27)
    replace F0 := F0.chg hc29 Dj.nil
    replace F1 := F1.chg hc29 Dj.nil
    replace F19 := F19.chg hc29 notNil
    replace hB := hB.inS hc29 inNil
    replace G27 := Nat.le_trans hZ G27
    replace hZ := Nat.le_trans hZ hc29.size
    refine wS_store (T := 27) (g := b25) (o := 0) (ad := ⟨b25, 0, none⟩) (v := .agg #[.int .i64 (y21.1), .int .i64 (y21.2.1), .int .i64 (y21.2.2.1), .int .i64 (y21.2.2.2.1), .int .i64 (y21.2.2.2.2)]) (vs := [.int .i64 (y21.1), .int .i64 (y21.2.1), .int .i64 (y21.2.2.1), .int .i64 (y21.2.2.2.1), .int .i64 (y21.2.2.2.2)]) (by kernel_rfl) (by rfl) sz27 (by rfl) (by rfl) F28 (by simp only [List.length_cons, List.length_nil]; omega) ?_
    intro w32 F33 hc34
    replace F0 := F0.chg hc34 (Dj.of L0 (low1 G27))
    replace F1 := F1.chg hc34 (Dj.of L1 (low1 G27))
    replace F19 := F19.chg hc34 (dj1 D31)
    replace hB := hB.inS hc34 (inLow (low1 G27))
    replace hZ := Nat.le_trans hZ hc34.size
    replace F33 : Cl w32 b25 27 [.int .i64 (y21.1), .int .i64 (y21.2.1), .int .i64 (y21.2.2.1), .int .i64 (y21.2.2.2.1), .int .i64 (y21.2.2.2.2)] := F33
    clear F28
    refine wS_end (by rfl) ?_
    refine eX_then ?_
    refine cW_seq ?_
    refine cW_region ?_
    refine wS_pure 1 [(32, .pointer (some ⟨b12, 0, none⟩))] (by kernel_rfl) ?_
    refine wS_loadA (d := 33) (T := 25) (ad := ⟨b12, 0, none⟩) (vs := [.int .i64 (y8.1), .int .i64 (y8.2.1), .int .i64 (y8.2.2.1), .int .i64 (y8.2.2.2.1)]) (by kernel_rfl) vt25 (fun i u hu => box_cells F19 0 hu (by rfl)) ?_
    refine wS_pure 1 [(34, .pointer (some ⟨b25, 0, none⟩))] (by kernel_rfl) ?_
    refine wS_loadA (d := 35) (T := 25) (ad := ⟨b25, 0, none⟩) (vs := [.int .i64 (y21.1), .int .i64 (y21.2.1), .int .i64 (y21.2.2.1), .int .i64 (y21.2.2.2.1)]) (by kernel_rfl) vt25 (fun i u hu => box_cells F33 0 hu (by rfl)) ?_
    obtain ⟨y35, hy36, hm⟩ := bindE hm
    refine wS_calls (d := 36) (f := 19) (vs := [.agg #[.int .i64 (y8.1), .int .i64 (y8.2.1), .int .i64 (y8.2.2.1), .int .i64 (y8.2.2.2.1)], .agg #[.int .i64 (y21.1), .int .i64 (y21.2.1), .int .i64 (y21.2.2.1), .int .i64 (y21.2.2.2.1)]]) (by kernel_rfl) ent19 (c_impl_FarRegions hy36) ?_
    rintro _ w37 ⟨rfl, hc38⟩
    replace F0 := F0.chg hc38 Dj.nil
    replace F1 := F1.chg hc38 Dj.nil
    replace F19 := F19.chg hc38 notNil
    replace F33 := F33.chg hc38 notNil
    replace hB := hB.inS hc38 inNil
    replace hZ := Nat.le_trans hZ hc38.size
    refine ⟨.tuple #[.int .i64 (y35.1), .bool (y35.2)], rfl, ?_⟩
    refine wS_pure 5 [(8, .bool (y35.2)), (7, .int .i64 (y35.1)), (38, .bool (y35.2)), (37, .int .i64 (y35.1)), (31, .tuple #[.int .i64 (y35.1), .bool (y35.2)])] (by kernel_rfl) ?_
    refine wS_end (by rfl) ?_
    refine eX_then ?_
    refine cW_seq ?_
    refine cW_region ?_
    refine wS_loadA (d := 40) (T := 27) (ad := ⟨b12, 0, none⟩) (vs := [.int .i64 (y8.1), .int .i64 (y8.2.1), .int .i64 (y8.2.2.1), .int .i64 (y8.2.2.2.1), .int .i64 (y8.2.2.2.2)]) (by kernel_rfl) vt27 (fun i u hu => box_cells F19 0 hu (by rfl)) ?_
    refine wS_loadA (d := 41) (T := 27) (ad := ⟨b25, 0, none⟩) (vs := [.int .i64 (y21.1), .int .i64 (y21.2.1), .int .i64 (y21.2.2.1), .int .i64 (y21.2.2.2.1), .int .i64 (y21.2.2.2.2)]) (by kernel_rfl) vt27 (fun i u hu => box_cells F33 0 hu (by rfl)) ?_
    obtain ⟨y39, hy40, hm⟩ := bindE hm
    refine wS_calls (d := 42) (f := 20) (vs := [.agg #[.int .i64 (y8.1), .int .i64 (y8.2.1), .int .i64 (y8.2.2.1), .int .i64 (y8.2.2.2.1), .int .i64 (y8.2.2.2.2)], .agg #[.int .i64 (y21.1), .int .i64 (y21.2.1), .int .i64 (y21.2.2.1), .int .i64 (y21.2.2.2.1), .int .i64 (y21.2.2.2.2)]]) (by kernel_rfl) ent20 (c_impl_MergePair hy40) ?_
    rintro _ w41 ⟨rfl, hc42⟩
    replace F0 := F0.chg hc42 Dj.nil
    replace F1 := F1.chg hc42 Dj.nil
    replace F19 := F19.chg hc42 notNil
    replace F33 := F33.chg hc42 notNil
    replace hB := hB.inS hc42 inNil
    replace hZ := Nat.le_trans hZ hc42.size
    refine ⟨.tuple #[.agg #[.int .i64 (y39.1.1), .int .i64 (y39.1.2.1), .int .i64 (y39.1.2.2.1), .int .i64 (y39.1.2.2.2.1), .int .i64 (y39.1.2.2.2.2)], .int .i64 (y39.2.1), .int .i64 (y39.2.2.1), .bool (y39.2.2.2)], rfl, ?_⟩
    refine wS_pure 5 [(46, .bool (y39.2.2.2)), (45, .int .i64 (y39.2.2.1)), (44, .int .i64 (y39.2.1)), (43, .agg #[.int .i64 (y39.1.1), .int .i64 (y39.1.2.1), .int .i64 (y39.1.2.2.1), .int .i64 (y39.1.2.2.2.1), .int .i64 (y39.1.2.2.2.2)]), (39, .tuple #[.agg #[.int .i64 (y39.1.1), .int .i64 (y39.1.2.1), .int .i64 (y39.1.2.2.1), .int .i64 (y39.1.2.2.2.1), .int .i64 (y39.1.2.2.2.2)], .int .i64 (y39.2.1), .int .i64 (y39.2.2.1), .bool (y39.2.2.2)])] (by kernel_rfl) ?_
    refine wS_alloc (d := 9) (T := 27) (z := .agg #[.int .i64 (0), .int .i64 (0), .int .i64 (0), .int .i64 (0), .int .i64 (0)]) (by kernel_rfl) (by kernel_rfl) ?_
    intro b43 w44 G45 F46 hc47
    replace F46 : Cl w44 b43 27 [.int .i64 (0), .int .i64 (0), .int .i64 (0), .int .i64 (0), .int .i64 (0)] := F46
    have D49 : Dj [b12] [b43] := Dj.of (lt1 F19.lt) (low1 G45)
    have D50 : Dj [b25] [b43] := Dj.of (lt1 F33.lt) (low1 G45)
    replace F0 := F0.chg hc47 Dj.nil
    replace F1 := F1.chg hc47 Dj.nil
    replace F19 := F19.chg hc47 notNil
    replace F33 := F33.chg hc47 notNil
    replace hB := hB.inS hc47 inNil
    replace G45 := Nat.le_trans hZ G45
    replace hZ := Nat.le_trans hZ hc47.size
    refine wS_store (T := 27) (g := b43) (o := 0) (ad := ⟨b43, 0, none⟩) (v := .agg #[.int .i64 (y39.1.1), .int .i64 (y39.1.2.1), .int .i64 (y39.1.2.2.1), .int .i64 (y39.1.2.2.2.1), .int .i64 (y39.1.2.2.2.2)]) (vs := [.int .i64 (y39.1.1), .int .i64 (y39.1.2.1), .int .i64 (y39.1.2.2.1), .int .i64 (y39.1.2.2.2.1), .int .i64 (y39.1.2.2.2.2)]) (by kernel_rfl) (by rfl) sz27 (by rfl) (by rfl) F46 (by simp only [List.length_cons, List.length_nil]; omega) ?_
    intro w51 F52 hc53
    replace F0 := F0.chg hc53 (Dj.of L0 (low1 G45))
    replace F1 := F1.chg hc53 (Dj.of L1 (low1 G45))
    replace F19 := F19.chg hc53 (dj1 D49)
    replace F33 := F33.chg hc53 (dj1 D50)
    replace hB := hB.inS hc53 (inLow (low1 G45))
    replace hZ := Nat.le_trans hZ hc53.size
    replace F52 : Cl w51 b43 27 [.int .i64 (y39.1.1), .int .i64 (y39.1.2.1), .int .i64 (y39.1.2.2.1), .int .i64 (y39.1.2.2.2.1), .int .i64 (y39.1.2.2.2.2)] := F52
    clear F46
    refine wS_pure 3 [(12, .bool (y39.2.2.2)), (11, .int .i64 (y39.2.2.1)), (10, .int .i64 (y39.2.1))] (by kernel_rfl) ?_
    refine wS_end (by rfl) ?_
    refine eX_then ?_
    refine cW_prune [(5, .pointer (some ⟨b12, 0, none⟩)), (6, .pointer (some ⟨b25, 0, none⟩)), (7, .int .i64 (y35.1)), (8, .bool (y35.2)), (9, .pointer (some ⟨b43, 0, none⟩)), (10, .int .i64 (y39.2.1)), (11, .int .i64 (y39.2.2.1)), (12, .bool (y39.2.2.2))] (by kernel_rfl) (by kernel_rfl) (fun a54 => ?_)
    refine cW_seq ?_
    refine cW_region ?_
    refine wS_pure 1 [(47, .pointer (some ⟨b12, 4, none⟩))] (by kernel_rfl) ?_
    refine wS_load1 (d := 48) (T := 2) (ad := ⟨b12, 4, none⟩) (v := .int .i64 (y8.2.2.2.2)) (by kernel_rfl) vt2 ((F19).cell 4) ?_
    refine wS_pure 1 [(49, .pointer (some ⟨b25, 4, none⟩))] (by kernel_rfl) ?_
    refine wS_load1 (d := 50) (T := 2) (ad := ⟨b25, 4, none⟩) (v := .int .i64 (y21.2.2.2.2)) (by kernel_rfl) vt2 ((F33).cell 4) ?_
    refine wS_pure 2 [(13, .int .i64 (wr (y8.2.2.2.2 - y21.2.2.2.2))), (51, .int .i64 (wr (y8.2.2.2.2 - y21.2.2.2.2)))] (by kernel_rfl) ?_
    refine wS_end (by rfl) ?_
    refine eX_then ?_
    refine cW_seq ?_
    obtain ⟨s62, hs63, hm⟩ := bindE hm
    refine cW_cut (fun a' w' => ∃ x57 : Int, x57 = s62 ∧ Fr 206 [(5, .pointer (some ⟨b12, 0, none⟩)), (6, .pointer (some ⟨b25, 0, none⟩)), (7, .int .i64 (y35.1)), (8, .bool (y35.2)), (9, .pointer (some ⟨b43, 0, none⟩)), (10, .int .i64 (y39.2.1)), (11, .int .i64 (y39.2.2.1)), (12, .bool (y39.2.2.2)), (13, .int .i64 (x57))] a' ∧ Cl w' b12 27 [.int .i64 (y8.1), .int .i64 (y8.2.1), .int .i64 (y8.2.2.1), .int .i64 (y8.2.2.2.1), .int .i64 (y8.2.2.2.2)] ∧ Cl w' b25 27 [.int .i64 (y21.1), .int .i64 (y21.2.1), .int .i64 (y21.2.2.1), .int .i64 (y21.2.2.2.1), .int .i64 (y21.2.2.2.2)] ∧ Cl w' b43 27 [.int .i64 (y39.1.1), .int .i64 (y39.1.2.1), .int .i64 (y39.1.2.2.1), .int .i64 (y39.1.2.2.2.1), .int .i64 (y39.1.2.2.2.2)] ∧ Chg [] w0 w' ∧ w0.heap.size ≤ w'.heap.size) ?_ ?_
    · have hm := hs63
      refine cW_seq ?_
      refine cW_region ?_
      refine wS_pure 2 [(53, .bool (decide ((wr (y8.2.2.2.2 - y21.2.2.2.2)) < 0))), (52, .int .i64 (wr (y8.2.2.2.2 - y21.2.2.2.2)))] (by kernel_rfl) ?_
      refine wS_end (by rfl) ?_
      refine eX_then ?_
      refine cW_cond (t := decide ((wr (y8.2.2.2.2 - y21.2.2.2.2)) < 0)) (by kernel_rfl) (fun hb64 => ?_) (fun hb64 => ?_)
      · have hm := condT hb64 hm
        refine cW_region ?_
        refine wS_pure 3 [(13, .int .i64 (wr (0 - (wr (y8.2.2.2.2 - y21.2.2.2.2))))), (55, .int .i64 (wr (0 - (wr (y8.2.2.2.2 - y21.2.2.2.2))))), (54, .int .i64 (wr (y8.2.2.2.2 - y21.2.2.2.2)))] (by kernel_rfl) ?_
        refine wS_end (by rfl) ?_
        have hq : (some (wr (0 - (wr (y8.2.2.2.2 - y21.2.2.2.2)))) : Option (Int)) = some _ := hm
        replace hq := someE hq
        subst hq
        exact eX_J (fun hst => ⟨wr (0 - (wr (y8.2.2.2.2 - y21.2.2.2.2))), rfl, Fr.of hst (by kernel_rfl), F19, F33, F52, hB, hZ⟩)
      · have hm := condF hb64 hm
        refine cW_skip ?_
        have hq : (some (wr (y8.2.2.2.2 - y21.2.2.2.2)) : Option (Int)) = some _ := hm
        replace hq := someE hq
        subst hq
        exact eX_J (fun hst => ⟨wr (y8.2.2.2.2 - y21.2.2.2.2), rfl, Fr.of hst (by kernel_rfl), F19, F33, F52, hB, hZ⟩)
    · rintro a' w56 ⟨x57, hJ, hF58, F59, F60, F61, hB, hZ⟩
      subst hJ
      refine Fr.goX hF58 (by kernel_rfl) ?_
      refine eX_then ?_
      refine cW_seq ?_
      refine cW_seq ?_
      obtain ⟨s74, hs75, hm⟩ := bindE hm
      refine cW_cut (fun a' w' => ∃ x69 : Bool, x69 = s74 ∧ Fr 206 [(5, .pointer (some ⟨b12, 0, none⟩)), (6, .pointer (some ⟨b25, 0, none⟩)), (7, .int .i64 (y35.1)), (9, .pointer (some ⟨b43, 0, none⟩)), (10, .int .i64 (y39.2.1)), (11, .int .i64 (y39.2.2.1)), (12, .bool (y39.2.2.2)), (13, .int .i64 (x57)), (75, .bool (x69))] a' ∧ Cl w' b12 27 [.int .i64 (y8.1), .int .i64 (y8.2.1), .int .i64 (y8.2.2.1), .int .i64 (y8.2.2.2.1), .int .i64 (y8.2.2.2.2)] ∧ Cl w' b25 27 [.int .i64 (y21.1), .int .i64 (y21.2.1), .int .i64 (y21.2.2.1), .int .i64 (y21.2.2.2.1), .int .i64 (y21.2.2.2.2)] ∧ Cl w' b43 27 [.int .i64 (y39.1.1), .int .i64 (y39.1.2.1), .int .i64 (y39.1.2.2.1), .int .i64 (y39.1.2.2.2.1), .int .i64 (y39.1.2.2.2.2)] ∧ Chg [] w0 w' ∧ w0.heap.size ≤ w'.heap.size) ?_ ?_
      · have hm := hs75
        refine cW_region ?_
        refine wS_pure 3 [(58, .bool (!y35.2)), (57, .bool (!y35.2)), (56, .bool (y35.2))] (by kernel_rfl) ?_
        refine wS_bool (!y35.2) (fun hb76 => ?_) (fun hb76 => ?_)
        · have hm := condT hb76 hm
          rewrite [hb76]
          refine wS_pure 17 [(75, .bool (true)), (74, undef), (73, undef), (72, undef), (71, undef), (70, undef), (69, undef), (68, undef), (67, undef), (66, undef), (65, undef), (64, undef), (63, undef), (62, .bool (true)), (61, .bool (true)), (60, undef), (59, undef)] (by kernel_rfl) ?_
          refine wS_end (by rfl) ?_
          have hq : (some true : Option (Bool)) = some _ := hm
          replace hq := someE hq
          subst hq
          exact eX_J (fun hst => ⟨true, rfl, Fr.of hst (by kernel_rfl), F59, F60, F61, hB, hZ⟩)
        · have hm := condF hb76 hm
          rewrite [hb76]
          refine wS_pure 4 [(62, .bool (decide (y35.1 < 0))), (61, .bool (decide (y35.1 < 0))), (60, .bool (decide (y35.1 < 0))), (59, .int .i64 (y35.1))] (by kernel_rfl) ?_
          refine wS_bool (decide (y35.1 < 0)) (fun hb77 => ?_) (fun hb77 => ?_)
          · have hm := condT hb77 hm
            rewrite [hb77]
            refine wS_pure 13 [(75, .bool (true)), (74, undef), (73, undef), (72, undef), (71, undef), (70, undef), (69, undef), (68, undef), (67, undef), (66, undef), (65, undef), (64, undef), (63, undef)] (by kernel_rfl) ?_
            refine wS_end (by rfl) ?_
            have hq : (some true : Option (Bool)) = some _ := hm
            replace hq := someE hq
            subst hq
            exact eX_J (fun hst => ⟨true, rfl, Fr.of hst (by kernel_rfl), F59, F60, F61, hB, hZ⟩)
          · have hm := condF hb77 hm
            rewrite [hb77]
            refine wS_pure 5 [(67, .bool (decide (x57 > y35.1))), (66, .bool (decide (x57 > y35.1))), (65, .int .i64 (y35.1)), (64, .int .i64 (x57)), (63, .bool (y39.2.2.2))] (by kernel_rfl) ?_
            refine wS_bool (decide (x57 > y35.1)) (fun hb78 => ?_) (fun hb78 => ?_)
            · have hm := condT hb78 hm
              rewrite [hb78]
              refine wS_pure 8 [(75, .bool (!(y39.2.2.2 == true))), (74, .bool (!(y39.2.2.2 == true))), (73, .bool (true)), (72, undef), (71, undef), (70, undef), (69, undef), (68, undef)] (by kernel_rfl) ?_
              refine wS_end (by rfl) ?_
              have hq : (some (!(y39.2.2.2 == true)) : Option (Bool)) = some _ := hm
              replace hq := someE hq
              subst hq
              exact eX_J (fun hst => ⟨!(y39.2.2.2 == true), rfl, Fr.of hst (by kernel_rfl), F59, F60, F61, hB, hZ⟩)
            · have hm := condF hb78 hm
              rewrite [hb78]
              refine wS_pure 8 [(75, .bool (!(y39.2.2.2 == ((Int.tmod (wr (y35.1 + x57)) 2) == 0)))), (74, .bool (!(y39.2.2.2 == ((Int.tmod (wr (y35.1 + x57)) 2) == 0)))), (73, .bool ((Int.tmod (wr (y35.1 + x57)) 2) == 0)), (72, .bool ((Int.tmod (wr (y35.1 + x57)) 2) == 0)), (71, .int .i64 (Int.tmod (wr (y35.1 + x57)) 2)), (70, .int .i64 (wr (y35.1 + x57))), (69, .int .i64 (x57)), (68, .int .i64 (y35.1))] (by kernel_rfl) ?_
              refine wS_end (by rfl) ?_
              have hq : (some (!(y39.2.2.2 == ((Int.tmod (wr (y35.1 + x57)) 2) == 0))) : Option (Bool)) = some _ := hm
              replace hq := someE hq
              subst hq
              exact eX_J (fun hst => ⟨!(y39.2.2.2 == ((Int.tmod (wr (y35.1 + x57)) 2) == 0)), rfl, Fr.of hst (by kernel_rfl), F59, F60, F61, hB, hZ⟩)
      · rintro a' w68 ⟨x69, hJ, hF70, F71, F72, F73, hB, hZ⟩
        subst hJ
        refine Fr.goX hF70 (by kernel_rfl) ?_
        refine eX_then ?_
        refine cW_cond (t := x69) (by kernel_rfl) (fun hb79 => ?_) (fun hb79 => ?_)
        · have hm := condT hb79 hm
          refine cW_seq ?_
          refine cW_region ?_
          refine wS_pure 1 [(4, .bool (false))] (by kernel_rfl) ?_
          refine wS_end (by rfl) ?_
          refine eX_then ?_
          refine cW_ret ?_
          refine eX_then_ret ?_
          have hq : (some false : Option ((Bool))) = some _ := hm
          replace hq := someE hq
          subst hq
          refine eX_ret (vs := [.bool (false)]) [.tmp 4] (by rfl) ⟨by (show lkE _ _ _ = _); kernel_rfl, trivial⟩ ?_
          exact ⟨rfl, hB⟩
        · have hm := condF hb79 hm
          refine cW_skip ?_
          refine eX_then ?_
          refine cW_seq ?_
          refine cW_seq ?_
          refine cW_region ?_
          refine wS_pure 2 [(77, .bool (!y39.2.2.2)), (76, .bool (y39.2.2.2))] (by kernel_rfl) ?_
          refine wS_end (by rfl) ?_
          refine eX_then ?_
          refine cW_cond (t := !y39.2.2.2) (by kernel_rfl) (fun hb80 => ?_) (fun hb80 => ?_)
          · have hm := condT hb80 hm
            refine cW_seq ?_
            refine cW_region ?_
            refine wS_pure 1 [(78, .pointer (some ⟨b12, 0, none⟩))] (by kernel_rfl) ?_
            refine wS_loadA (d := 79) (T := 25) (ad := ⟨b12, 0, none⟩) (vs := [.int .i64 (y8.1), .int .i64 (y8.2.1), .int .i64 (y8.2.2.1), .int .i64 (y8.2.2.2.1)]) (by kernel_rfl) vt25 (fun i u hu => box_cells F71 0 hu (by rfl)) ?_
            obtain ⟨y81, hy82, hm⟩ := bindE hm
            refine wS_calls (d := 80) (f := 21) (vs := [.agg #[.int .i64 (y8.1), .int .i64 (y8.2.1), .int .i64 (y8.2.2.1), .int .i64 (y8.2.2.2.1)]]) (by kernel_rfl) ent21 (c_impl_ValidRegion hy82) ?_
            rintro _ w83 ⟨rfl, hc84⟩
            replace F71 := F71.chg hc84 notNil
            replace F72 := F72.chg hc84 notNil
            replace F73 := F73.chg hc84 notNil
            replace hB := hB.inS hc84 inNil
            replace hZ := Nat.le_trans hZ hc84.size
            refine ⟨.bool (y81), rfl, ?_⟩
            refine wS_pure 1 [(4, .bool (y81))] (by kernel_rfl) ?_
            refine wS_end (by rfl) ?_
            refine eX_then ?_
            refine cW_ret ?_
            refine eX_then_ret ?_
            have hq : (some y81 : Option ((Bool))) = some _ := hm
            replace hq := someE hq
            subst hq
            refine eX_ret (vs := [.bool (y81)]) [.tmp 4] (by rfl) ⟨by (show lkE _ _ _ = _); kernel_rfl, trivial⟩ ?_
            exact ⟨rfl, hB⟩
          · have hm := condF hb80 hm
            refine cW_skip ?_
            refine eX_then ?_
            refine cW_seq ?_
            refine cW_seq ?_
            refine cW_region ?_
            refine wS_pure 1 [(81, .pointer (some ⟨b43, 4, none⟩))] (by kernel_rfl) ?_
            refine wS_load1 (d := 82) (T := 2) (ad := ⟨b43, 4, none⟩) (v := .int .i64 (y39.1.2.2.2.2)) (by kernel_rfl) vt2 ((F73).cell 4) ?_
            refine wS_pure 1 [(83, .pointer (some ⟨b12, 4, none⟩))] (by kernel_rfl) ?_
            refine wS_load1 (d := 84) (T := 2) (ad := ⟨b12, 4, none⟩) (v := .int .i64 (y8.2.2.2.2)) (by kernel_rfl) vt2 ((F71).cell 4) ?_
            refine wS_pure 4 [(88, .bool (y39.1.2.2.2.2 != (wr (y8.2.2.2.2 + y39.2.1)))), (87, .bool (y39.1.2.2.2.2 != (wr (y8.2.2.2.2 + y39.2.1)))), (86, .int .i64 (wr (y8.2.2.2.2 + y39.2.1))), (85, .int .i64 (y39.2.1))] (by kernel_rfl) ?_
            refine wS_bool (y39.1.2.2.2.2 != (wr (y8.2.2.2.2 + y39.2.1))) (fun hb85 => ?_) (fun hb85 => ?_)
            · have hm := condT hb85 hm
              rewrite [hb85]
              refine wS_pure 22 [(110, .bool (true)), (109, undef), (108, undef), (107, undef), (106, undef), (105, .bool (true)), (104, .bool (true)), (103, undef), (102, undef), (101, .bool (true)), (100, .bool (true)), (99, undef), (98, undef), (97, .bool (true)), (96, .bool (true)), (95, undef), (94, undef), (93, undef), (92, undef), (91, undef), (90, undef), (89, undef)] (by kernel_rfl) ?_
              refine wS_end (by rfl) ?_
              refine eX_then ?_
              refine cW_prune [(5, .pointer (some ⟨b12, 0, none⟩)), (6, .pointer (some ⟨b25, 0, none⟩)), (7, .int .i64 (y35.1)), (9, .pointer (some ⟨b43, 0, none⟩)), (10, .int .i64 (y39.2.1)), (11, .int .i64 (y39.2.2.1)), (13, .int .i64 (x57)), (110, .bool (true))] (by kernel_rfl) (by kernel_rfl) (fun a86 => ?_)
              refine cW_cond_t (by kernel_rfl) ?_
              refine cW_seq ?_
              refine cW_region ?_
              refine wS_pure 1 [(4, .bool (false))] (by kernel_rfl) ?_
              refine wS_end (by rfl) ?_
              refine eX_then ?_
              refine cW_ret ?_
              refine eX_then_ret ?_
              have hq : (some false : Option ((Bool))) = some _ := hm
              replace hq := someE hq
              subst hq
              refine eX_ret (vs := [.bool (false)]) [.tmp 4] (by rfl) ⟨by (show lkE _ _ _ = _); kernel_rfl, trivial⟩ ?_
              exact ⟨rfl, hB⟩
            · have hm := condF hb85 hm
              rewrite [hb85]
              refine wS_pure 1 [(89, .pointer (some ⟨b43, 4, none⟩))] (by kernel_rfl) ?_
              refine wS_load1 (d := 90) (T := 2) (ad := ⟨b43, 4, none⟩) (v := .int .i64 (y39.1.2.2.2.2)) (by kernel_rfl) vt2 ((F73).cell 4) ?_
              refine wS_pure 1 [(91, .pointer (some ⟨b25, 4, none⟩))] (by kernel_rfl) ?_
              refine wS_load1 (d := 92) (T := 2) (ad := ⟨b25, 4, none⟩) (v := .int .i64 (y21.2.2.2.2)) (by kernel_rfl) vt2 ((F72).cell 4) ?_
              refine wS_pure 5 [(97, .bool (y39.1.2.2.2.2 != (wr (y21.2.2.2.2 + y39.2.2.1)))), (96, .bool (y39.1.2.2.2.2 != (wr (y21.2.2.2.2 + y39.2.2.1)))), (95, .bool (y39.1.2.2.2.2 != (wr (y21.2.2.2.2 + y39.2.2.1)))), (94, .int .i64 (wr (y21.2.2.2.2 + y39.2.2.1))), (93, .int .i64 (y39.2.2.1))] (by kernel_rfl) ?_
              refine wS_bool (y39.1.2.2.2.2 != (wr (y21.2.2.2.2 + y39.2.2.1))) (fun hb87 => ?_) (fun hb87 => ?_)
              · have hm := condT hb87 hm
                rewrite [hb87]
                refine wS_pure 13 [(110, .bool (true)), (109, undef), (108, undef), (107, undef), (106, undef), (105, .bool (true)), (104, .bool (true)), (103, undef), (102, undef), (101, .bool (true)), (100, .bool (true)), (99, undef), (98, undef)] (by kernel_rfl) ?_
                refine wS_end (by rfl) ?_
                refine eX_then ?_
                refine cW_prune [(5, .pointer (some ⟨b12, 0, none⟩)), (6, .pointer (some ⟨b25, 0, none⟩)), (7, .int .i64 (y35.1)), (9, .pointer (some ⟨b43, 0, none⟩)), (10, .int .i64 (y39.2.1)), (11, .int .i64 (y39.2.2.1)), (13, .int .i64 (x57)), (110, .bool (true))] (by kernel_rfl) (by kernel_rfl) (fun a88 => ?_)
                refine cW_cond_t (by kernel_rfl) ?_
                refine cW_seq ?_
                refine cW_region ?_
                refine wS_pure 1 [(4, .bool (false))] (by kernel_rfl) ?_
                refine wS_end (by rfl) ?_
                refine eX_then ?_
                refine cW_ret ?_
                refine eX_then_ret ?_
                have hq : (some false : Option ((Bool))) = some _ := hm
                replace hq := someE hq
                subst hq
                refine eX_ret (vs := [.bool (false)]) [.tmp 4] (by rfl) ⟨by (show lkE _ _ _ = _); kernel_rfl, trivial⟩ ?_
                exact ⟨rfl, hB⟩
              · have hm := condF hb87 hm
                rewrite [hb87]
                refine wS_pure 4 [(101, .bool (decide (y39.2.1 < 0))), (100, .bool (decide (y39.2.1 < 0))), (99, .bool (decide (y39.2.1 < 0))), (98, .int .i64 (y39.2.1))] (by kernel_rfl) ?_
                refine wS_bool (decide (y39.2.1 < 0)) (fun hb89 => ?_) (fun hb89 => ?_)
                · have hm := condT hb89 hm
                  rewrite [hb89]
                  refine wS_pure 9 [(110, .bool (true)), (109, undef), (108, undef), (107, undef), (106, undef), (105, .bool (true)), (104, .bool (true)), (103, undef), (102, undef)] (by kernel_rfl) ?_
                  refine wS_end (by rfl) ?_
                  refine eX_then ?_
                  refine cW_prune [(5, .pointer (some ⟨b12, 0, none⟩)), (6, .pointer (some ⟨b25, 0, none⟩)), (7, .int .i64 (y35.1)), (9, .pointer (some ⟨b43, 0, none⟩)), (10, .int .i64 (y39.2.1)), (11, .int .i64 (y39.2.2.1)), (13, .int .i64 (x57)), (110, .bool (true))] (by kernel_rfl) (by kernel_rfl) (fun a90 => ?_)
                  refine cW_cond_t (by kernel_rfl) ?_
                  refine cW_seq ?_
                  refine cW_region ?_
                  refine wS_pure 1 [(4, .bool (false))] (by kernel_rfl) ?_
                  refine wS_end (by rfl) ?_
                  refine eX_then ?_
                  refine cW_ret ?_
                  refine eX_then_ret ?_
                  have hq : (some false : Option ((Bool))) = some _ := hm
                  replace hq := someE hq
                  subst hq
                  refine eX_ret (vs := [.bool (false)]) [.tmp 4] (by rfl) ⟨by (show lkE _ _ _ = _); kernel_rfl, trivial⟩ ?_
                  exact ⟨rfl, hB⟩
                · have hm := condF hb89 hm
                  rewrite [hb89]
                  refine wS_pure 4 [(105, .bool (decide (y39.2.2.1 < 0))), (104, .bool (decide (y39.2.2.1 < 0))), (103, .bool (decide (y39.2.2.1 < 0))), (102, .int .i64 (y39.2.2.1))] (by kernel_rfl) ?_
                  refine wS_bool (decide (y39.2.2.1 < 0)) (fun hb91 => ?_) (fun hb91 => ?_)
                  · have hm := condT hb91 hm
                    rewrite [hb91]
                    refine wS_pure 5 [(110, .bool (true)), (109, undef), (108, undef), (107, undef), (106, undef)] (by kernel_rfl) ?_
                    refine wS_end (by rfl) ?_
                    refine eX_then ?_
                    refine cW_prune [(5, .pointer (some ⟨b12, 0, none⟩)), (6, .pointer (some ⟨b25, 0, none⟩)), (7, .int .i64 (y35.1)), (9, .pointer (some ⟨b43, 0, none⟩)), (10, .int .i64 (y39.2.1)), (11, .int .i64 (y39.2.2.1)), (13, .int .i64 (x57)), (110, .bool (true))] (by kernel_rfl) (by kernel_rfl) (fun a92 => ?_)
                    refine cW_cond_t (by kernel_rfl) ?_
                    refine cW_seq ?_
                    refine cW_region ?_
                    refine wS_pure 1 [(4, .bool (false))] (by kernel_rfl) ?_
                    refine wS_end (by rfl) ?_
                    refine eX_then ?_
                    refine cW_ret ?_
                    refine eX_then_ret ?_
                    have hq : (some false : Option ((Bool))) = some _ := hm
                    replace hq := someE hq
                    subst hq
                    refine eX_ret (vs := [.bool (false)]) [.tmp 4] (by rfl) ⟨by (show lkE _ _ _ = _); kernel_rfl, trivial⟩ ?_
                    exact ⟨rfl, hB⟩
                  · have hm := condF hb91 hm
                    rewrite [hb91]
                    refine wS_pure 1 [(106, .pointer (some ⟨b43, 0, none⟩))] (by kernel_rfl) ?_
                    refine wS_loadA (d := 107) (T := 25) (ad := ⟨b43, 0, none⟩) (vs := [.int .i64 (y39.1.1), .int .i64 (y39.1.2.1), .int .i64 (y39.1.2.2.1), .int .i64 (y39.1.2.2.2.1)]) (by kernel_rfl) vt25 (fun i u hu => box_cells F73 0 hu (by rfl)) ?_
                    obtain ⟨y93, hy94, hm⟩ := bindE hm
                    refine wS_calls (d := 108) (f := 21) (vs := [.agg #[.int .i64 (y39.1.1), .int .i64 (y39.1.2.1), .int .i64 (y39.1.2.2.1), .int .i64 (y39.1.2.2.2.1)]]) (by kernel_rfl) ent21 (c_impl_ValidRegion hy94) ?_
                    rintro _ w95 ⟨rfl, hc96⟩
                    replace F71 := F71.chg hc96 notNil
                    replace F72 := F72.chg hc96 notNil
                    replace F73 := F73.chg hc96 notNil
                    replace hB := hB.inS hc96 inNil
                    replace hZ := Nat.le_trans hZ hc96.size
                    refine ⟨.bool (y93), rfl, ?_⟩
                    refine wS_pure 2 [(110, .bool (!y93)), (109, .bool (!y93))] (by kernel_rfl) ?_
                    refine wS_end (by rfl) ?_
                    refine eX_then ?_
                    refine cW_prune [(5, .pointer (some ⟨b12, 0, none⟩)), (6, .pointer (some ⟨b25, 0, none⟩)), (7, .int .i64 (y35.1)), (9, .pointer (some ⟨b43, 0, none⟩)), (10, .int .i64 (y39.2.1)), (11, .int .i64 (y39.2.2.1)), (13, .int .i64 (x57)), (110, .bool (!y93))] (by kernel_rfl) (by kernel_rfl) (fun a97 => ?_)
                    refine cW_cond (t := !y93) (by kernel_rfl) (fun hb98 => ?_) (fun hb98 => ?_)
                    · have hm := condT hb98 hm
                      refine cW_seq ?_
                      refine cW_region ?_
                      refine wS_pure 1 [(4, .bool (false))] (by kernel_rfl) ?_
                      refine wS_end (by rfl) ?_
                      refine eX_then ?_
                      refine cW_ret ?_
                      refine eX_then_ret ?_
                      have hq : (some false : Option ((Bool))) = some _ := hm
                      replace hq := someE hq
                      subst hq
                      refine eX_ret (vs := [.bool (false)]) [.tmp 4] (by rfl) ⟨by (show lkE _ _ _ = _); kernel_rfl, trivial⟩ ?_
                      exact ⟨rfl, hB⟩
                    · have hm := condF hb98 hm
                      refine cW_skip ?_
                      refine eX_then ?_
                      refine cW_seq ?_
                      refine cW_seq ?_
                      obtain ⟨s113, hs114, hm⟩ := bindE hm
                      refine cW_cut (fun a' w' => ∃ x108 : Bool, x108 = s113 ∧ Fr 206 [(5, .pointer (some ⟨b12, 0, none⟩)), (6, .pointer (some ⟨b25, 0, none⟩)), (9, .pointer (some ⟨b43, 0, none⟩)), (10, .int .i64 (y39.2.1)), (11, .int .i64 (y39.2.2.1)), (140, .bool (x108))] a' ∧ Cl w' b12 27 [.int .i64 (y8.1), .int .i64 (y8.2.1), .int .i64 (y8.2.2.1), .int .i64 (y8.2.2.2.1), .int .i64 (y8.2.2.2.2)] ∧ Cl w' b25 27 [.int .i64 (y21.1), .int .i64 (y21.2.1), .int .i64 (y21.2.2.1), .int .i64 (y21.2.2.2.1), .int .i64 (y21.2.2.2.2)] ∧ Cl w' b43 27 [.int .i64 (y39.1.1), .int .i64 (y39.1.2.1), .int .i64 (y39.1.2.2.1), .int .i64 (y39.1.2.2.2.1), .int .i64 (y39.1.2.2.2.2)] ∧ Chg [] w0 w' ∧ w0.heap.size ≤ w'.heap.size) ?_ ?_
                      · have hm := hs114
                        refine cW_region ?_
                        refine wS_pure 4 [(114, .bool (decide (x57 ≤ y35.1))), (113, .bool (decide (x57 ≤ y35.1))), (112, .int .i64 (y35.1)), (111, .int .i64 (x57))] (by kernel_rfl) ?_
                        refine wS_bool (decide (x57 ≤ y35.1)) (fun hb115 => ?_) (fun hb115 => ?_)
                        · have hm := condT hb115 hm
                          rewrite [hb115]
                          refine wS_pure 7 [(121, .bool ((wr (y39.2.1 + y39.2.2.1)) != y35.1)), (120, .bool ((wr (y39.2.1 + y39.2.2.1)) != y35.1)), (119, .bool ((wr (y39.2.1 + y39.2.2.1)) != y35.1)), (118, .int .i64 (y35.1)), (117, .int .i64 (wr (y39.2.1 + y39.2.2.1))), (116, .int .i64 (y39.2.2.1)), (115, .int .i64 (y39.2.1))] (by kernel_rfl) ?_
                          refine wS_bool ((wr (y39.2.1 + y39.2.2.1)) != y35.1) (fun hb116 => ?_) (fun hb116 => ?_)
                          · have hm := condT hb116 hm
                            rewrite [hb116]
                            refine wS_pure 19 [(140, .bool (true)), (139, undef), (138, undef), (137, undef), (136, undef), (135, undef), (134, undef), (133, undef), (132, undef), (131, undef), (130, undef), (129, undef), (128, undef), (127, undef), (126, undef), (125, undef), (124, undef), (123, undef), (122, undef)] (by kernel_rfl) ?_
                            refine wS_end (by rfl) ?_
                            have hq : (some true : Option (Bool)) = some _ := hm
                            replace hq := someE hq
                            subst hq
                            exact eX_J (fun hst => ⟨true, rfl, Fr.of hst (by kernel_rfl), F71, F72, F73, hB, hZ⟩)
                          · have hm := condF hb116 hm
                            rewrite [hb116]
                            refine wS_pure 4 [(125, .bool (decide (x57 > y35.1))), (124, .bool (decide (x57 > y35.1))), (123, .int .i64 (y35.1)), (122, .int .i64 (x57))] (by kernel_rfl) ?_
                            refine wS_bool (decide (x57 > y35.1)) (fun hb117 => ?_) (fun hb117 => ?_)
                            · have hm := condT hb117 hm
                              rewrite [hb117]
                              refine wS_pure 6 [(131, .bool ((wr (y39.2.1 + y39.2.2.1)) != x57)), (130, .bool ((wr (y39.2.1 + y39.2.2.1)) != x57)), (129, .int .i64 (x57)), (128, .int .i64 (wr (y39.2.1 + y39.2.2.1))), (127, .int .i64 (y39.2.2.1)), (126, .int .i64 (y39.2.1))] (by kernel_rfl) ?_
                              refine wS_bool ((wr (y39.2.1 + y39.2.2.1)) != x57) (fun hb118 => ?_) (fun hb118 => ?_)
                              · have hm := condT hb118 hm
                                rewrite [hb118]
                                refine wS_pure 9 [(140, .bool (true)), (139, .bool (true)), (138, .bool (true)), (137, undef), (136, undef), (135, undef), (134, undef), (133, undef), (132, undef)] (by kernel_rfl) ?_
                                refine wS_end (by rfl) ?_
                                have hq : (some true : Option (Bool)) = some _ := hm
                                replace hq := someE hq
                                subst hq
                                exact eX_J (fun hst => ⟨true, rfl, Fr.of hst (by kernel_rfl), F71, F72, F73, hB, hZ⟩)
                              · have hm := condF hb118 hm
                                rewrite [hb118]
                                refine wS_pure 3 [(134, .bool (y39.2.1 != 0)), (133, .bool (y39.2.1 != 0)), (132, .int .i64 (y39.2.1))] (by kernel_rfl) ?_
                                refine wS_bool (y39.2.1 != 0) (fun hb119 => ?_) (fun hb119 => ?_)
                                · have hm := condT hb119 hm
                                  rewrite [hb119]
                                  refine wS_pure 6 [(140, .bool (y39.2.2.1 != 0)), (139, .bool (y39.2.2.1 != 0)), (138, .bool (y39.2.2.1 != 0)), (137, .bool (y39.2.2.1 != 0)), (136, .bool (y39.2.2.1 != 0)), (135, .int .i64 (y39.2.2.1))] (by kernel_rfl) ?_
                                  refine wS_end (by rfl) ?_
                                  have hq : (some (y39.2.2.1 != 0) : Option (Bool)) = some _ := hm
                                  replace hq := someE hq
                                  subst hq
                                  exact eX_J (fun hst => ⟨y39.2.2.1 != 0, rfl, Fr.of hst (by kernel_rfl), F71, F72, F73, hB, hZ⟩)
                                · have hm := condF hb119 hm
                                  rewrite [hb119]
                                  refine wS_pure 6 [(140, .bool (false)), (139, .bool (false)), (138, .bool (false)), (137, .bool (false)), (136, undef), (135, undef)] (by kernel_rfl) ?_
                                  refine wS_end (by rfl) ?_
                                  have hq : (some false : Option (Bool)) = some _ := hm
                                  replace hq := someE hq
                                  subst hq
                                  exact eX_J (fun hst => ⟨false, rfl, Fr.of hst (by kernel_rfl), F71, F72, F73, hB, hZ⟩)
                            · have hm := condF hb117 hm
                              rewrite [hb117]
                              refine wS_pure 15 [(140, .bool (false)), (139, .bool (false)), (138, undef), (137, undef), (136, undef), (135, undef), (134, undef), (133, undef), (132, undef), (131, undef), (130, undef), (129, undef), (128, undef), (127, undef), (126, undef)] (by kernel_rfl) ?_
                              refine wS_end (by rfl) ?_
                              have hq : (some false : Option (Bool)) = some _ := hm
                              replace hq := someE hq
                              subst hq
                              exact eX_J (fun hst => ⟨false, rfl, Fr.of hst (by kernel_rfl), F71, F72, F73, hB, hZ⟩)
                        · have hm := condF hb115 hm
                          rewrite [hb115]
                          refine wS_pure 11 [(125, .bool (decide (x57 > y35.1))), (124, .bool (decide (x57 > y35.1))), (123, .int .i64 (y35.1)), (122, .int .i64 (x57)), (121, .bool (false)), (120, .bool (false)), (119, undef), (118, undef), (117, undef), (116, undef), (115, undef)] (by kernel_rfl) ?_
                          refine wS_bool (decide (x57 > y35.1)) (fun hb120 => ?_) (fun hb120 => ?_)
                          · have hm := condT hb120 hm
                            rewrite [hb120]
                            refine wS_pure 6 [(131, .bool ((wr (y39.2.1 + y39.2.2.1)) != x57)), (130, .bool ((wr (y39.2.1 + y39.2.2.1)) != x57)), (129, .int .i64 (x57)), (128, .int .i64 (wr (y39.2.1 + y39.2.2.1))), (127, .int .i64 (y39.2.2.1)), (126, .int .i64 (y39.2.1))] (by kernel_rfl) ?_
                            refine wS_bool ((wr (y39.2.1 + y39.2.2.1)) != x57) (fun hb121 => ?_) (fun hb121 => ?_)
                            · have hm := condT hb121 hm
                              rewrite [hb121]
                              refine wS_pure 9 [(140, .bool (true)), (139, .bool (true)), (138, .bool (true)), (137, undef), (136, undef), (135, undef), (134, undef), (133, undef), (132, undef)] (by kernel_rfl) ?_
                              refine wS_end (by rfl) ?_
                              have hq : (some true : Option (Bool)) = some _ := hm
                              replace hq := someE hq
                              subst hq
                              exact eX_J (fun hst => ⟨true, rfl, Fr.of hst (by kernel_rfl), F71, F72, F73, hB, hZ⟩)
                            · have hm := condF hb121 hm
                              rewrite [hb121]
                              refine wS_pure 3 [(134, .bool (y39.2.1 != 0)), (133, .bool (y39.2.1 != 0)), (132, .int .i64 (y39.2.1))] (by kernel_rfl) ?_
                              refine wS_bool (y39.2.1 != 0) (fun hb122 => ?_) (fun hb122 => ?_)
                              · have hm := condT hb122 hm
                                rewrite [hb122]
                                refine wS_pure 6 [(140, .bool (y39.2.2.1 != 0)), (139, .bool (y39.2.2.1 != 0)), (138, .bool (y39.2.2.1 != 0)), (137, .bool (y39.2.2.1 != 0)), (136, .bool (y39.2.2.1 != 0)), (135, .int .i64 (y39.2.2.1))] (by kernel_rfl) ?_
                                refine wS_end (by rfl) ?_
                                have hq : (some (y39.2.2.1 != 0) : Option (Bool)) = some _ := hm
                                replace hq := someE hq
                                subst hq
                                exact eX_J (fun hst => ⟨y39.2.2.1 != 0, rfl, Fr.of hst (by kernel_rfl), F71, F72, F73, hB, hZ⟩)
                              · have hm := condF hb122 hm
                                rewrite [hb122]
                                refine wS_pure 6 [(140, .bool (false)), (139, .bool (false)), (138, .bool (false)), (137, .bool (false)), (136, undef), (135, undef)] (by kernel_rfl) ?_
                                refine wS_end (by rfl) ?_
                                have hq : (some false : Option (Bool)) = some _ := hm
                                replace hq := someE hq
                                subst hq
                                exact eX_J (fun hst => ⟨false, rfl, Fr.of hst (by kernel_rfl), F71, F72, F73, hB, hZ⟩)
                          · have hm := condF hb120 hm
                            rewrite [hb120]
                            refine wS_pure 15 [(140, .bool (false)), (139, .bool (false)), (138, undef), (137, undef), (136, undef), (135, undef), (134, undef), (133, undef), (132, undef), (131, undef), (130, undef), (129, undef), (128, undef), (127, undef), (126, undef)] (by kernel_rfl) ?_
                            refine wS_end (by rfl) ?_
                            have hq : (some false : Option (Bool)) = some _ := hm
                            replace hq := someE hq
                            subst hq
                            exact eX_J (fun hst => ⟨false, rfl, Fr.of hst (by kernel_rfl), F71, F72, F73, hB, hZ⟩)
                      · rintro a' w107 ⟨x108, hJ, hF109, F110, F111, F112, hB, hZ⟩
                        subst hJ
                        refine Fr.goX hF109 (by kernel_rfl) ?_
                        refine eX_then ?_
                        refine cW_cond (t := x108) (by kernel_rfl) (fun hb123 => ?_) (fun hb123 => ?_)
                        · have hm := condT hb123 hm
                          refine cW_seq ?_
                          refine cW_region ?_
                          refine wS_pure 1 [(4, .bool (false))] (by kernel_rfl) ?_
                          refine wS_end (by rfl) ?_
                          refine eX_then ?_
                          refine cW_ret ?_
                          refine eX_then_ret ?_
                          have hq : (some false : Option ((Bool))) = some _ := hm
                          replace hq := someE hq
                          subst hq
                          refine eX_ret (vs := [.bool (false)]) [.tmp 4] (by rfl) ⟨by (show lkE _ _ _ = _); kernel_rfl, trivial⟩ ?_
                          exact ⟨rfl, hB⟩
                        · have hm := condF hb123 hm
                          refine cW_skip ?_
                          refine eX_then ?_
                          refine cW_seq ?_
                          refine cW_region ?_
                          refine wS_pure 1 [(142, .pointer (some ⟨b12, 0, none⟩))] (by kernel_rfl) ?_
                          refine wS_loadA (d := 143) (T := 25) (ad := ⟨b12, 0, none⟩) (vs := [.int .i64 (y8.1), .int .i64 (y8.2.1), .int .i64 (y8.2.2.1), .int .i64 (y8.2.2.2.1)]) (by kernel_rfl) vt25 (fun i u hu => box_cells F110 0 hu (by rfl)) ?_
                          refine wS_pure 1 [(144, .int .i64 (y39.2.1))] (by kernel_rfl) ?_
                          obtain ⟨y124, hy125, hm⟩ := bindE hm
                          refine wS_calls (d := 145) (f := 22) (vs := [.agg #[.int .i64 (y8.1), .int .i64 (y8.2.1), .int .i64 (y8.2.2.1), .int .i64 (y8.2.2.2.1)], .int .i64 (y39.2.1)]) (by kernel_rfl) ent22 (c_impl_GrowRegion hy125) ?_
                          rintro _ w126 ⟨rfl, hc127⟩
                          replace F110 := F110.chg hc127 notNil
                          replace F111 := F111.chg hc127 notNil
                          replace F112 := F112.chg hc127 notNil
                          replace hB := hB.inS hc127 inNil
                          replace hZ := Nat.le_trans hZ hc127.size
                          refine ⟨.tuple #[.agg #[.int .i64 (y124.1.1), .int .i64 (y124.1.2.1), .int .i64 (y124.1.2.2.1), .int .i64 (y124.1.2.2.2)], .bool (y124.2)], rfl, ?_⟩
                          refine wS_pure 3 [(147, .bool (y124.2)), (146, .agg #[.int .i64 (y124.1.1), .int .i64 (y124.1.2.1), .int .i64 (y124.1.2.2.1), .int .i64 (y124.1.2.2.2)]), (141, .tuple #[.agg #[.int .i64 (y124.1.1), .int .i64 (y124.1.2.1), .int .i64 (y124.1.2.2.1), .int .i64 (y124.1.2.2.2)], .bool (y124.2)])] (by kernel_rfl) ?_
                          refine wS_alloc (d := 14) (T := 25) (z := .agg #[.int .i64 (0), .int .i64 (0), .int .i64 (0), .int .i64 (0)]) (by kernel_rfl) (by kernel_rfl) ?_
                          intro b128 w129 G130 F131 hc132
                          replace F131 : Cl w129 b128 25 [.int .i64 (0), .int .i64 (0), .int .i64 (0), .int .i64 (0)] := F131
                          have D134 : Dj [b12] [b128] := Dj.of (lt1 F110.lt) (low1 G130)
                          have D135 : Dj [b25] [b128] := Dj.of (lt1 F111.lt) (low1 G130)
                          have D136 : Dj [b43] [b128] := Dj.of (lt1 F112.lt) (low1 G130)
                          replace F110 := F110.chg hc132 notNil
                          replace F111 := F111.chg hc132 notNil
                          replace F112 := F112.chg hc132 notNil
                          replace hB := hB.inS hc132 inNil
                          replace G130 := Nat.le_trans hZ G130
                          replace hZ := Nat.le_trans hZ hc132.size
                          refine wS_store (T := 25) (g := b128) (o := 0) (ad := ⟨b128, 0, none⟩) (v := .agg #[.int .i64 (y124.1.1), .int .i64 (y124.1.2.1), .int .i64 (y124.1.2.2.1), .int .i64 (y124.1.2.2.2)]) (vs := [.int .i64 (y124.1.1), .int .i64 (y124.1.2.1), .int .i64 (y124.1.2.2.1), .int .i64 (y124.1.2.2.2)]) (by kernel_rfl) (by rfl) sz25 (by rfl) (by rfl) F131 (by simp only [List.length_cons, List.length_nil]; omega) ?_
                          intro w137 F138 hc139
                          replace F110 := F110.chg hc139 (dj1 D134)
                          replace F111 := F111.chg hc139 (dj1 D135)
                          replace F112 := F112.chg hc139 (dj1 D136)
                          replace hB := hB.inS hc139 (inLow (low1 G130))
                          replace hZ := Nat.le_trans hZ hc139.size
                          replace F138 : Cl w137 b128 25 [.int .i64 (y124.1.1), .int .i64 (y124.1.2.1), .int .i64 (y124.1.2.2.1), .int .i64 (y124.1.2.2.2)] := F138
                          clear F131
                          refine wS_pure 1 [(15, .bool (y124.2))] (by kernel_rfl) ?_
                          refine wS_end (by rfl) ?_
                          refine eX_then ?_
                          refine cW_seq ?_
                          refine cW_region ?_
                          refine wS_pure 1 [(149, .pointer (some ⟨b25, 0, none⟩))] (by kernel_rfl) ?_
                          refine wS_loadA (d := 150) (T := 25) (ad := ⟨b25, 0, none⟩) (vs := [.int .i64 (y21.1), .int .i64 (y21.2.1), .int .i64 (y21.2.2.1), .int .i64 (y21.2.2.2.1)]) (by kernel_rfl) vt25 (fun i u hu => box_cells F111 0 hu (by rfl)) ?_
                          refine wS_pure 1 [(151, .int .i64 (y39.2.2.1))] (by kernel_rfl) ?_
                          obtain ⟨y140, hy141, hm⟩ := bindE hm
                          refine wS_calls (d := 152) (f := 22) (vs := [.agg #[.int .i64 (y21.1), .int .i64 (y21.2.1), .int .i64 (y21.2.2.1), .int .i64 (y21.2.2.2.1)], .int .i64 (y39.2.2.1)]) (by kernel_rfl) ent22 (c_impl_GrowRegion hy141) ?_
                          rintro _ w142 ⟨rfl, hc143⟩
                          replace F110 := F110.chg hc143 notNil
                          replace F111 := F111.chg hc143 notNil
                          replace F112 := F112.chg hc143 notNil
                          replace F138 := F138.chg hc143 notNil
                          replace hB := hB.inS hc143 inNil
                          replace hZ := Nat.le_trans hZ hc143.size
                          refine ⟨.tuple #[.agg #[.int .i64 (y140.1.1), .int .i64 (y140.1.2.1), .int .i64 (y140.1.2.2.1), .int .i64 (y140.1.2.2.2)], .bool (y140.2)], rfl, ?_⟩
                          refine wS_pure 3 [(154, .bool (y140.2)), (153, .agg #[.int .i64 (y140.1.1), .int .i64 (y140.1.2.1), .int .i64 (y140.1.2.2.1), .int .i64 (y140.1.2.2.2)]), (148, .tuple #[.agg #[.int .i64 (y140.1.1), .int .i64 (y140.1.2.1), .int .i64 (y140.1.2.2.1), .int .i64 (y140.1.2.2.2)], .bool (y140.2)])] (by kernel_rfl) ?_
                          refine wS_alloc (d := 16) (T := 25) (z := .agg #[.int .i64 (0), .int .i64 (0), .int .i64 (0), .int .i64 (0)]) (by kernel_rfl) (by kernel_rfl) ?_
                          intro b144 w145 G146 F147 hc148
                          replace F147 : Cl w145 b144 25 [.int .i64 (0), .int .i64 (0), .int .i64 (0), .int .i64 (0)] := F147
                          have D150 : Dj [b12] [b144] := Dj.of (lt1 F110.lt) (low1 G146)
                          have D151 : Dj [b25] [b144] := Dj.of (lt1 F111.lt) (low1 G146)
                          have D152 : Dj [b43] [b144] := Dj.of (lt1 F112.lt) (low1 G146)
                          have D153 : Dj [b128] [b144] := Dj.of (lt1 F138.lt) (low1 G146)
                          replace F110 := F110.chg hc148 notNil
                          replace F111 := F111.chg hc148 notNil
                          replace F112 := F112.chg hc148 notNil
                          replace F138 := F138.chg hc148 notNil
                          replace hB := hB.inS hc148 inNil
                          replace G146 := Nat.le_trans hZ G146
                          replace hZ := Nat.le_trans hZ hc148.size
                          refine wS_store (T := 25) (g := b144) (o := 0) (ad := ⟨b144, 0, none⟩) (v := .agg #[.int .i64 (y140.1.1), .int .i64 (y140.1.2.1), .int .i64 (y140.1.2.2.1), .int .i64 (y140.1.2.2.2)]) (vs := [.int .i64 (y140.1.1), .int .i64 (y140.1.2.1), .int .i64 (y140.1.2.2.1), .int .i64 (y140.1.2.2.2)]) (by kernel_rfl) (by rfl) sz25 (by rfl) (by rfl) F147 (by simp only [List.length_cons, List.length_nil]; omega) ?_
                          intro w154 F155 hc156
                          replace F110 := F110.chg hc156 (dj1 D150)
                          replace F111 := F111.chg hc156 (dj1 D151)
                          replace F112 := F112.chg hc156 (dj1 D152)
                          replace F138 := F138.chg hc156 (dj1 D153)
                          replace hB := hB.inS hc156 (inLow (low1 G146))
                          replace hZ := Nat.le_trans hZ hc156.size
                          replace F155 : Cl w154 b144 25 [.int .i64 (y140.1.1), .int .i64 (y140.1.2.1), .int .i64 (y140.1.2.2.1), .int .i64 (y140.1.2.2.2)] := F155
                          clear F147
                          refine wS_pure 1 [(17, .bool (y140.2))] (by kernel_rfl) ?_
                          refine wS_end (by rfl) ?_
                          refine eX_then ?_
                          refine cW_prune [(5, .pointer (some ⟨b12, 0, none⟩)), (6, .pointer (some ⟨b25, 0, none⟩)), (9, .pointer (some ⟨b43, 0, none⟩)), (10, .int .i64 (y39.2.1)), (11, .int .i64 (y39.2.2.1)), (14, .pointer (some ⟨b128, 0, none⟩)), (15, .bool (y124.2)), (16, .pointer (some ⟨b144, 0, none⟩)), (17, .bool (y140.2))] (by kernel_rfl) (by kernel_rfl) (fun a157 => ?_)
                          refine cW_seq ?_
                          refine cW_region ?_
                          refine wS_loadA (d := 156) (T := 25) (ad := ⟨b128, 0, none⟩) (vs := [.int .i64 (y124.1.1), .int .i64 (y124.1.2.1), .int .i64 (y124.1.2.2.1), .int .i64 (y124.1.2.2.2)]) (by kernel_rfl) vt25 (fun i u hu => box_cells F138 0 hu (by rfl)) ?_
                          refine wS_loadA (d := 157) (T := 25) (ad := ⟨b144, 0, none⟩) (vs := [.int .i64 (y140.1.1), .int .i64 (y140.1.2.1), .int .i64 (y140.1.2.2.1), .int .i64 (y140.1.2.2.2)]) (by kernel_rfl) vt25 (fun i u hu => box_cells F155 0 hu (by rfl)) ?_
                          obtain ⟨y158, hy159, hm⟩ := bindE hm
                          refine wS_calls (d := 158) (f := 23) (vs := [.agg #[.int .i64 (y124.1.1), .int .i64 (y124.1.2.1), .int .i64 (y124.1.2.2.1), .int .i64 (y124.1.2.2.2)], .agg #[.int .i64 (y140.1.1), .int .i64 (y140.1.2.1), .int .i64 (y140.1.2.2.1), .int .i64 (y140.1.2.2.2)]]) (by kernel_rfl) ent23 (c_impl_MeetRegions hy159) ?_
                          rintro _ w160 ⟨rfl, hc161⟩
                          replace F110 := F110.chg hc161 notNil
                          replace F111 := F111.chg hc161 notNil
                          replace F112 := F112.chg hc161 notNil
                          replace F138 := F138.chg hc161 notNil
                          replace F155 := F155.chg hc161 notNil
                          replace hB := hB.inS hc161 inNil
                          replace hZ := Nat.le_trans hZ hc161.size
                          refine ⟨.tuple #[.agg #[.int .i64 (y158.1.1), .int .i64 (y158.1.2.1), .int .i64 (y158.1.2.2.1), .int .i64 (y158.1.2.2.2)], .bool (y158.2)], rfl, ?_⟩
                          refine wS_pure 3 [(160, .bool (y158.2)), (159, .agg #[.int .i64 (y158.1.1), .int .i64 (y158.1.2.1), .int .i64 (y158.1.2.2.1), .int .i64 (y158.1.2.2.2)]), (155, .tuple #[.agg #[.int .i64 (y158.1.1), .int .i64 (y158.1.2.1), .int .i64 (y158.1.2.2.1), .int .i64 (y158.1.2.2.2)], .bool (y158.2)])] (by kernel_rfl) ?_
                          refine wS_alloc (d := 18) (T := 25) (z := .agg #[.int .i64 (0), .int .i64 (0), .int .i64 (0), .int .i64 (0)]) (by kernel_rfl) (by kernel_rfl) ?_
                          intro b162 w163 G164 F165 hc166
                          replace F165 : Cl w163 b162 25 [.int .i64 (0), .int .i64 (0), .int .i64 (0), .int .i64 (0)] := F165
                          have D168 : Dj [b12] [b162] := Dj.of (lt1 F110.lt) (low1 G164)
                          have D169 : Dj [b25] [b162] := Dj.of (lt1 F111.lt) (low1 G164)
                          have D170 : Dj [b43] [b162] := Dj.of (lt1 F112.lt) (low1 G164)
                          have D171 : Dj [b128] [b162] := Dj.of (lt1 F138.lt) (low1 G164)
                          have D172 : Dj [b144] [b162] := Dj.of (lt1 F155.lt) (low1 G164)
                          replace F110 := F110.chg hc166 notNil
                          replace F111 := F111.chg hc166 notNil
                          replace F112 := F112.chg hc166 notNil
                          replace F138 := F138.chg hc166 notNil
                          replace F155 := F155.chg hc166 notNil
                          replace hB := hB.inS hc166 inNil
                          replace G164 := Nat.le_trans hZ G164
                          replace hZ := Nat.le_trans hZ hc166.size
                          refine wS_store (T := 25) (g := b162) (o := 0) (ad := ⟨b162, 0, none⟩) (v := .agg #[.int .i64 (y158.1.1), .int .i64 (y158.1.2.1), .int .i64 (y158.1.2.2.1), .int .i64 (y158.1.2.2.2)]) (vs := [.int .i64 (y158.1.1), .int .i64 (y158.1.2.1), .int .i64 (y158.1.2.2.1), .int .i64 (y158.1.2.2.2)]) (by kernel_rfl) (by rfl) sz25 (by rfl) (by rfl) F165 (by simp only [List.length_cons, List.length_nil]; omega) ?_
                          intro w173 F174 hc175
                          replace F110 := F110.chg hc175 (dj1 D168)
                          replace F111 := F111.chg hc175 (dj1 D169)
                          replace F112 := F112.chg hc175 (dj1 D170)
                          replace F138 := F138.chg hc175 (dj1 D171)
                          replace F155 := F155.chg hc175 (dj1 D172)
                          replace hB := hB.inS hc175 (inLow (low1 G164))
                          replace hZ := Nat.le_trans hZ hc175.size
                          replace F174 : Cl w173 b162 25 [.int .i64 (y158.1.1), .int .i64 (y158.1.2.1), .int .i64 (y158.1.2.2.1), .int .i64 (y158.1.2.2.2)] := F174
                          clear F165
                          refine wS_pure 1 [(19, .bool (y158.2))] (by kernel_rfl) ?_
                          refine wS_end (by rfl) ?_
                          refine eX_then ?_
                          refine cW_seq ?_
                          refine cW_region ?_
                          refine wS_pure 1 [(162, .pointer (some ⟨b43, 0, none⟩))] (by kernel_rfl) ?_
                          refine wS_loadA (d := 163) (T := 25) (ad := ⟨b43, 0, none⟩) (vs := [.int .i64 (y39.1.1), .int .i64 (y39.1.2.1), .int .i64 (y39.1.2.2.1), .int .i64 (y39.1.2.2.2.1)]) (by kernel_rfl) vt25 (fun i u hu => box_cells F112 0 hu (by rfl)) ?_
                          refine wS_pure 1 [(164, .pointer (some ⟨b12, 0, none⟩))] (by kernel_rfl) ?_
                          refine wS_loadA (d := 165) (T := 25) (ad := ⟨b12, 0, none⟩) (vs := [.int .i64 (y8.1), .int .i64 (y8.2.1), .int .i64 (y8.2.2.1), .int .i64 (y8.2.2.2.1)]) (by kernel_rfl) vt25 (fun i u hu => box_cells F110 0 hu (by rfl)) ?_
                          obtain ⟨y176, hy177, hm⟩ := bindE hm
                          refine wS_calls (d := 166) (f := 19) (vs := [.agg #[.int .i64 (y39.1.1), .int .i64 (y39.1.2.1), .int .i64 (y39.1.2.2.1), .int .i64 (y39.1.2.2.2.1)], .agg #[.int .i64 (y8.1), .int .i64 (y8.2.1), .int .i64 (y8.2.2.1), .int .i64 (y8.2.2.2.1)]]) (by kernel_rfl) ent19 (c_impl_FarRegions hy177) ?_
                          rintro _ w178 ⟨rfl, hc179⟩
                          replace F110 := F110.chg hc179 notNil
                          replace F111 := F111.chg hc179 notNil
                          replace F112 := F112.chg hc179 notNil
                          replace F138 := F138.chg hc179 notNil
                          replace F155 := F155.chg hc179 notNil
                          replace F174 := F174.chg hc179 notNil
                          replace hB := hB.inS hc179 inNil
                          replace hZ := Nat.le_trans hZ hc179.size
                          refine ⟨.tuple #[.int .i64 (y176.1), .bool (y176.2)], rfl, ?_⟩
                          refine wS_pure 5 [(21, .bool (y176.2)), (20, .int .i64 (y176.1)), (168, .bool (y176.2)), (167, .int .i64 (y176.1)), (161, .tuple #[.int .i64 (y176.1), .bool (y176.2)])] (by kernel_rfl) ?_
                          refine wS_end (by rfl) ?_
                          refine eX_then ?_
                          refine cW_prune [(6, .pointer (some ⟨b25, 0, none⟩)), (9, .pointer (some ⟨b43, 0, none⟩)), (10, .int .i64 (y39.2.1)), (11, .int .i64 (y39.2.2.1)), (15, .bool (y124.2)), (17, .bool (y140.2)), (18, .pointer (some ⟨b162, 0, none⟩)), (19, .bool (y158.2)), (20, .int .i64 (y176.1)), (21, .bool (y176.2))] (by kernel_rfl) (by kernel_rfl) (fun a180 => ?_)
                          refine cW_seq ?_
                          refine cW_region ?_
                          refine wS_pure 1 [(170, .pointer (some ⟨b43, 0, none⟩))] (by kernel_rfl) ?_
                          refine wS_loadA (d := 171) (T := 25) (ad := ⟨b43, 0, none⟩) (vs := [.int .i64 (y39.1.1), .int .i64 (y39.1.2.1), .int .i64 (y39.1.2.2.1), .int .i64 (y39.1.2.2.2.1)]) (by kernel_rfl) vt25 (fun i u hu => box_cells F112 0 hu (by rfl)) ?_
                          refine wS_pure 1 [(172, .pointer (some ⟨b25, 0, none⟩))] (by kernel_rfl) ?_
                          refine wS_loadA (d := 173) (T := 25) (ad := ⟨b25, 0, none⟩) (vs := [.int .i64 (y21.1), .int .i64 (y21.2.1), .int .i64 (y21.2.2.1), .int .i64 (y21.2.2.2.1)]) (by kernel_rfl) vt25 (fun i u hu => box_cells F111 0 hu (by rfl)) ?_
                          obtain ⟨y181, hy182, hm⟩ := bindE hm
                          refine wS_calls (d := 174) (f := 19) (vs := [.agg #[.int .i64 (y39.1.1), .int .i64 (y39.1.2.1), .int .i64 (y39.1.2.2.1), .int .i64 (y39.1.2.2.2.1)], .agg #[.int .i64 (y21.1), .int .i64 (y21.2.1), .int .i64 (y21.2.2.1), .int .i64 (y21.2.2.2.1)]]) (by kernel_rfl) ent19 (c_impl_FarRegions hy182) ?_
                          rintro _ w183 ⟨rfl, hc184⟩
                          replace F110 := F110.chg hc184 notNil
                          replace F111 := F111.chg hc184 notNil
                          replace F112 := F112.chg hc184 notNil
                          replace F138 := F138.chg hc184 notNil
                          replace F155 := F155.chg hc184 notNil
                          replace F174 := F174.chg hc184 notNil
                          replace hB := hB.inS hc184 inNil
                          replace hZ := Nat.le_trans hZ hc184.size
                          refine ⟨.tuple #[.int .i64 (y181.1), .bool (y181.2)], rfl, ?_⟩
                          refine wS_pure 5 [(23, .bool (y181.2)), (22, .int .i64 (y181.1)), (176, .bool (y181.2)), (175, .int .i64 (y181.1)), (169, .tuple #[.int .i64 (y181.1), .bool (y181.2)])] (by kernel_rfl) ?_
                          refine wS_end (by rfl) ?_
                          refine eX_then ?_
                          refine cW_seq ?_
                          refine cW_region ?_
                          refine wS_pure 2 [(178, .bool (y124.2)), (177, .bool (y124.2))] (by kernel_rfl) ?_
                          refine wS_bool y124.2 (fun hb185 => ?_) (fun hb185 => ?_)
                          · have hm := condT hb185 hm
                            rewrite [hb185]
                            refine wS_pure 3 [(181, .bool (y140.2)), (180, .bool (y140.2)), (179, .bool (y140.2))] (by kernel_rfl) ?_
                            refine wS_bool y140.2 (fun hb186 => ?_) (fun hb186 => ?_)
                            · have hm := condT hb186 hm
                              rewrite [hb186]
                              refine wS_pure 3 [(184, .bool (y158.2)), (183, .bool (y158.2)), (182, .bool (y158.2))] (by kernel_rfl) ?_
                              refine wS_bool y158.2 (fun hb187 => ?_) (fun hb187 => ?_)
                              · have hm := condT hb187 hm
                                rewrite [hb187]
                                refine wS_pure 3 [(187, .bool (y176.2)), (186, .bool (y176.2)), (185, .bool (y176.2))] (by kernel_rfl) ?_
                                refine wS_bool y176.2 (fun hb188 => ?_) (fun hb188 => ?_)
                                · have hm := condT hb188 hm
                                  rewrite [hb188]
                                  refine wS_pure 3 [(190, .bool (y181.2)), (189, .bool (y181.2)), (188, .bool (y181.2))] (by kernel_rfl) ?_
                                  refine wS_bool y181.2 (fun hb189 => ?_) (fun hb189 => ?_)
                                  · have hm := condT hb189 hm
                                    rewrite [hb189]
                                    refine wS_loadA (d := 191) (T := 25) (ad := ⟨b162, 0, none⟩) (vs := [.int .i64 (y158.1.1), .int .i64 (y158.1.2.1), .int .i64 (y158.1.2.2.1), .int .i64 (y158.1.2.2.2)]) (by kernel_rfl) vt25 (fun i u hu => box_cells F174 0 hu (by rfl)) ?_
                                    refine wS_pure 1 [(192, .pointer (some ⟨b43, 0, none⟩))] (by kernel_rfl) ?_
                                    refine wS_loadA (d := 193) (T := 25) (ad := ⟨b43, 0, none⟩) (vs := [.int .i64 (y39.1.1), .int .i64 (y39.1.2.1), .int .i64 (y39.1.2.2.1), .int .i64 (y39.1.2.2.2.1)]) (by kernel_rfl) vt25 (fun i u hu => box_cells F112 0 hu (by rfl)) ?_
                                    refine wS_eqS4 (d := 194) (T := 25) (x0 := y158.1.1) (x1 := y158.1.2.1) (x2 := y158.1.2.2.1) (x3 := y158.1.2.2.2) (y0 := y39.1.1) (y1 := y39.1.2.1) (y2 := y39.1.2.2.1) (y3 := y39.1.2.2.2.1) (by kernel_rfl) eq25 ?_
                                    refine wS_pure 2 [(196, .bool (y158.1.1 == y39.1.1 && y158.1.2.1 == y39.1.2.1 && y158.1.2.2.1 == y39.1.2.2.1 && y158.1.2.2.2 == y39.1.2.2.2.1)), (195, .bool (y158.1.1 == y39.1.1 && y158.1.2.1 == y39.1.2.1 && y158.1.2.2.1 == y39.1.2.2.1 && y158.1.2.2.2 == y39.1.2.2.2.1))] (by kernel_rfl) ?_
                                    refine wS_bool (y158.1.1 == y39.1.1 && y158.1.2.1 == y39.1.2.1 && y158.1.2.2.1 == y39.1.2.2.1 && y158.1.2.2.2 == y39.1.2.2.2.1) (fun hb190 => ?_) (fun hb190 => ?_)
                                    · have hm := condT hb190 hm
                                      rewrite [hb190]
                                      refine wS_pure 5 [(201, .bool (decide (y176.1 ≤ y39.2.1))), (200, .bool (decide (y176.1 ≤ y39.2.1))), (199, .bool (decide (y176.1 ≤ y39.2.1))), (198, .int .i64 (y39.2.1)), (197, .int .i64 (y176.1))] (by kernel_rfl) ?_
                                      refine wS_bool (decide (y176.1 ≤ y39.2.1)) (fun hb191 => ?_) (fun hb191 => ?_)
                                      · have hm := condT hb191 hm
                                        rewrite [hb191]
                                        refine wS_pure 5 [(4, .bool (decide (y181.1 ≤ y39.2.2.1))), (205, .bool (decide (y181.1 ≤ y39.2.2.1))), (204, .bool (decide (y181.1 ≤ y39.2.2.1))), (203, .int .i64 (y39.2.2.1)), (202, .int .i64 (y181.1))] (by kernel_rfl) ?_
                                        refine wS_end (by rfl) ?_
                                        refine eX_then ?_
                                        refine cW_prune [(4, .bool (decide (y181.1 ≤ y39.2.2.1)))] (by kernel_rfl) (by kernel_rfl) (fun a192 => ?_)
                                        refine cW_ret ?_
                                        have hq : (some (decide (y181.1 ≤ y39.2.2.1)) : Option ((Bool))) = some _ := hm
                                        replace hq := someE hq
                                        subst hq
                                        refine eX_ret (vs := [.bool (decide (y181.1 ≤ y39.2.2.1))]) [.tmp 4] (by rfl) ⟨by (show lkE _ _ _ = _); kernel_rfl, trivial⟩ ?_
                                        exact ⟨rfl, hB⟩
                                      · have hm := condF hb191 hm
                                        rewrite [hb191]
                                        refine wS_pure 5 [(4, .bool (false)), (205, .bool (false)), (204, undef), (203, undef), (202, undef)] (by kernel_rfl) ?_
                                        refine wS_end (by rfl) ?_
                                        refine eX_then ?_
                                        refine cW_prune [(4, .bool (false))] (by kernel_rfl) (by kernel_rfl) (fun a193 => ?_)
                                        refine cW_ret ?_
                                        have hq : (some false : Option ((Bool))) = some _ := hm
                                        replace hq := someE hq
                                        subst hq
                                        refine eX_ret (vs := [.bool (false)]) [.tmp 4] (by rfl) ⟨by (show lkE _ _ _ = _); kernel_rfl, trivial⟩ ?_
                                        exact ⟨rfl, hB⟩
                                    · have hm := condF hb190 hm
                                      rewrite [hb190]
                                      refine wS_pure 10 [(4, .bool (false)), (205, .bool (false)), (204, undef), (203, undef), (202, undef), (201, .bool (false)), (200, .bool (false)), (199, undef), (198, undef), (197, undef)] (by kernel_rfl) ?_
                                      refine wS_end (by rfl) ?_
                                      refine eX_then ?_
                                      refine cW_prune [(4, .bool (false))] (by kernel_rfl) (by kernel_rfl) (fun a194 => ?_)
                                      refine cW_ret ?_
                                      have hq : (some false : Option ((Bool))) = some _ := hm
                                      replace hq := someE hq
                                      subst hq
                                      refine eX_ret (vs := [.bool (false)]) [.tmp 4] (by rfl) ⟨by (show lkE _ _ _ = _); kernel_rfl, trivial⟩ ?_
                                      exact ⟨rfl, hB⟩
                                  · have hm := condF hb189 hm
                                    rewrite [hb189]
                                    refine wS_pure 16 [(4, .bool (false)), (205, .bool (false)), (204, undef), (203, undef), (202, undef), (201, .bool (false)), (200, .bool (false)), (199, undef), (198, undef), (197, undef), (196, .bool (false)), (195, .bool (false)), (194, undef), (193, undef), (192, undef), (191, undef)] (by kernel_rfl) ?_
                                    refine wS_end (by rfl) ?_
                                    refine eX_then ?_
                                    refine cW_prune [(4, .bool (false))] (by kernel_rfl) (by kernel_rfl) (fun a195 => ?_)
                                    refine cW_ret ?_
                                    have hq : (some false : Option ((Bool))) = some _ := hm
                                    replace hq := someE hq
                                    subst hq
                                    refine eX_ret (vs := [.bool (false)]) [.tmp 4] (by rfl) ⟨by (show lkE _ _ _ = _); kernel_rfl, trivial⟩ ?_
                                    exact ⟨rfl, hB⟩
                                · have hm := condF hb188 hm
                                  rewrite [hb188]
                                  refine wS_pure 19 [(4, .bool (false)), (205, .bool (false)), (204, undef), (203, undef), (202, undef), (201, .bool (false)), (200, .bool (false)), (199, undef), (198, undef), (197, undef), (196, .bool (false)), (195, .bool (false)), (194, undef), (193, undef), (192, undef), (191, undef), (190, .bool (false)), (189, .bool (false)), (188, undef)] (by kernel_rfl) ?_
                                  refine wS_end (by rfl) ?_
                                  refine eX_then ?_
                                  refine cW_prune [(4, .bool (false))] (by kernel_rfl) (by kernel_rfl) (fun a196 => ?_)
                                  refine cW_ret ?_
                                  have hq : (some false : Option ((Bool))) = some _ := hm
                                  replace hq := someE hq
                                  subst hq
                                  refine eX_ret (vs := [.bool (false)]) [.tmp 4] (by rfl) ⟨by (show lkE _ _ _ = _); kernel_rfl, trivial⟩ ?_
                                  exact ⟨rfl, hB⟩
                              · have hm := condF hb187 hm
                                rewrite [hb187]
                                refine wS_pure 22 [(4, .bool (false)), (205, .bool (false)), (204, undef), (203, undef), (202, undef), (201, .bool (false)), (200, .bool (false)), (199, undef), (198, undef), (197, undef), (196, .bool (false)), (195, .bool (false)), (194, undef), (193, undef), (192, undef), (191, undef), (190, .bool (false)), (189, .bool (false)), (188, undef), (187, .bool (false)), (186, .bool (false)), (185, undef)] (by kernel_rfl) ?_
                                refine wS_end (by rfl) ?_
                                refine eX_then ?_
                                refine cW_prune [(4, .bool (false))] (by kernel_rfl) (by kernel_rfl) (fun a197 => ?_)
                                refine cW_ret ?_
                                have hq : (some false : Option ((Bool))) = some _ := hm
                                replace hq := someE hq
                                subst hq
                                refine eX_ret (vs := [.bool (false)]) [.tmp 4] (by rfl) ⟨by (show lkE _ _ _ = _); kernel_rfl, trivial⟩ ?_
                                exact ⟨rfl, hB⟩
                            · have hm := condF hb186 hm
                              rewrite [hb186]
                              refine wS_pure 25 [(4, .bool (false)), (205, .bool (false)), (204, undef), (203, undef), (202, undef), (201, .bool (false)), (200, .bool (false)), (199, undef), (198, undef), (197, undef), (196, .bool (false)), (195, .bool (false)), (194, undef), (193, undef), (192, undef), (191, undef), (190, .bool (false)), (189, .bool (false)), (188, undef), (187, .bool (false)), (186, .bool (false)), (185, undef), (184, .bool (false)), (183, .bool (false)), (182, undef)] (by kernel_rfl) ?_
                              refine wS_end (by rfl) ?_
                              refine eX_then ?_
                              refine cW_prune [(4, .bool (false))] (by kernel_rfl) (by kernel_rfl) (fun a198 => ?_)
                              refine cW_ret ?_
                              have hq : (some false : Option ((Bool))) = some _ := hm
                              replace hq := someE hq
                              subst hq
                              refine eX_ret (vs := [.bool (false)]) [.tmp 4] (by rfl) ⟨by (show lkE _ _ _ = _); kernel_rfl, trivial⟩ ?_
                              exact ⟨rfl, hB⟩
                          · have hm := condF hb185 hm
                            rewrite [hb185]
                            refine wS_pure 28 [(4, .bool (false)), (205, .bool (false)), (204, undef), (203, undef), (202, undef), (201, .bool (false)), (200, .bool (false)), (199, undef), (198, undef), (197, undef), (196, .bool (false)), (195, .bool (false)), (194, undef), (193, undef), (192, undef), (191, undef), (190, .bool (false)), (189, .bool (false)), (188, undef), (187, .bool (false)), (186, .bool (false)), (185, undef), (184, .bool (false)), (183, .bool (false)), (182, undef), (181, .bool (false)), (180, .bool (false)), (179, undef)] (by kernel_rfl) ?_
                            refine wS_end (by rfl) ?_
                            refine eX_then ?_
                            refine cW_prune [(4, .bool (false))] (by kernel_rfl) (by kernel_rfl) (fun a199 => ?_)
                            refine cW_ret ?_
                            have hq : (some false : Option ((Bool))) = some _ := hm
                            replace hq := someE hq
                            subst hq
                            refine eX_ret (vs := [.bool (false)]) [.tmp 4] (by rfl) ⟨by (show lkE _ _ _ = _); kernel_rfl, trivial⟩ ?_
                            exact ⟨rfl, hB⟩

end Go.Proofs.Ytajnjbmniobjhaa
