/- Printed walks: spec.l06Pair, spec.l06Tree, spec.l00Has, spec.NearestJoins, laws.toPoint, laws.toPointS, laws.eqPoint, laws.eqPointS, laws.markPointS, laws.markInt64S, laws.markInt64SS, laws.heldInt64S, laws.heldInt64SS. -/
import Derived.Test.YtajnjbmniobjhaaProg
import Derived.Test.YtajnjbmniobjhaaWNj02
set_option linter.unusedSimpArgs false
set_option linter.unusedVariables false
namespace Go.Proofs.Ytajnjbmniobjhaa
open Go.RowKit
attribute [local irreducible] wS cW eX wH

theorem ent65 : Ent Try.prog 65 := fun _ => by kernel_rfl
theorem ent66 : Ent Try.prog 66 := fun _ => by kernel_rfl
theorem ent107 : Ent Try.prog 107 := fun _ => by kernel_rfl
theorem ent108 : Ent Try.prog 108 := fun _ => by kernel_rfl
theorem ent109 : Ent Try.prog 109 := fun _ => by kernel_rfl
theorem ent110 : Ent Try.prog 110 := fun _ => by kernel_rfl
theorem ent111 : Ent Try.prog 111 := fun _ => by kernel_rfl
theorem ent112 : Ent Try.prog 112 := fun _ => by kernel_rfl
theorem ent143 : Ent Try.prog 143 := fun _ => by kernel_rfl
theorem ent144 : Ent Try.prog 144 := fun _ => by kernel_rfl
theorem ent160 : Ent Try.prog 160 := fun _ => by kernel_rfl
theorem ent161 : Ent Try.prog 161 := fun _ => by kernel_rfl
theorem vt132 : VarTy Try.prog 132 2 true := ⟨by kernel_rfl, by kernel_rfl⟩
theorem sl76 : SlTy Try.prog 76 132 2 := ⟨Try.underlying76, by kernel_rfl⟩
theorem el58 : ElTy Try.prog 58 116 2 (.agg #[.int .i64 (0), .int .i64 (0)]) := ElTy.mk' Try.underlying58 (by kernel_rfl) (by rfl)
theorem sz2 : pureRun Try.prog (sizeOf 2) = some 1 := by kernel_rfl

set_option maxRecDepth 100000 in
/-- spec.l06Pair -/
theorem c_spec_l06Pair {w0 : World} {p0_0 : Int} {p0_1 : Int} {p0_2 : Int} {p0_3 : Int} {p0_4 : Int} {p1_0 : Int} {p1_1 : Int} {p1_2 : Int} {p1_3 : Int} {p1_4 : Int} {r : (Int × Int × Int × Int × Int) × (Int) × (Int)} (hm : m_spec_l06Pair p0_0 p0_1 p0_2 p0_3 p0_4 p1_0 p1_1 p1_2 p1_3 p1_4 = some r)  :
    Calls Try.prog 144 #[.agg #[.int .i64 (p0_0), .int .i64 (p0_1), .int .i64 (p0_2), .int .i64 (p0_3), .int .i64 (p0_4)], .agg #[.int .i64 (p1_0), .int .i64 (p1_1), .int .i64 (p1_2), .int .i64 (p1_3), .int .i64 (p1_4)]] w0 fun e w' => e = .returned (.tuple #[.agg #[.int .i64 (r.1.1), .int .i64 (r.1.2.1), .int .i64 (r.1.2.2.1), .int .i64 (r.1.2.2.2.1), .int .i64 (r.1.2.2.2.2)], .int .i64 (r.2.1), .int .i64 (r.2.2)]) ∧ Chg [] w0 w' := by
  have hB : Chg [] w0 w0 := Chg.refl _ _
  have hZ := Nat.le_refl w0.heap.size
  unfold m_spec_l06Pair at hm
  refine enterE (N := 56) Try.func144 (by rfl) Try.ntmps144 (by simp) [(0, .agg #[.int .i64 (p0_0), .int .i64 (p0_1), .int .i64 (p0_2), .int .i64 (p0_3), .int .i64 (p0_4)]), (1, .agg #[.int .i64 (p1_0), .int .i64 (p1_1), .int .i64 (p1_2), .int .i64 (p1_3), .int .i64 (p1_4)])] (by rfl) (by kernel_rfl) (fun a => ?_)
  refine cW_seq ?_
  refine cW_region ?_
  refine wS_box (d := 2) (T := 27) (x := .agg #[.int .i64 (p0_0), .int .i64 (p0_1), .int .i64 (p0_2), .int .i64 (p0_3), .int .i64 (p0_4)]) (by kernel_rfl) ?_
  intro b1 w2 G3 F4 hc5
  replace F4 : Cl w2 b1 27 [.int .i64 (p0_0), .int .i64 (p0_1), .int .i64 (p0_2), .int .i64 (p0_3), .int .i64 (p0_4)] := F4
  replace hB := hB.inS hc5 inNil
  replace G3 := Nat.le_trans hZ G3
  replace hZ := Nat.le_trans hZ hc5.size
  refine wS_box (d := 3) (T := 27) (x := .agg #[.int .i64 (p1_0), .int .i64 (p1_1), .int .i64 (p1_2), .int .i64 (p1_3), .int .i64 (p1_4)]) (by kernel_rfl) ?_
  intro b7 w8 G9 F10 hc11
  replace F10 : Cl w8 b7 27 [.int .i64 (p1_0), .int .i64 (p1_1), .int .i64 (p1_2), .int .i64 (p1_3), .int .i64 (p1_4)] := F10
  have D13 : Dj [b1] [b7] := Dj.of (lt1 F4.lt) (low1 G9)
  replace F4 := F4.chg hc11 notNil
  replace hB := hB.inS hc11 inNil
  replace G9 := Nat.le_trans hZ G9
  replace hZ := Nat.le_trans hZ hc11.size
  refine wS_alloc (d := 4) (T := 27) (z := .agg #[.int .i64 (0), .int .i64 (0), .int .i64 (0), .int .i64 (0), .int .i64 (0)]) (by kernel_rfl) (by kernel_rfl) ?_
  intro b14 w15 G16 F17 hc18
  replace F17 : Cl w15 b14 27 [.int .i64 (0), .int .i64 (0), .int .i64 (0), .int .i64 (0), .int .i64 (0)] := F17
  have D20 : Dj [b1] [b14] := Dj.of (lt1 F4.lt) (low1 G16)
  have D21 : Dj [b7] [b14] := Dj.of (lt1 F10.lt) (low1 G16)
  replace F4 := F4.chg hc18 notNil
  replace F10 := F10.chg hc18 notNil
  replace hB := hB.inS hc18 inNil
  replace G16 := Nat.le_trans hZ G16
  replace hZ := Nat.le_trans hZ hc18.size
  refine wS_pure 2 [(6, .int .i64 (0)), (5, .int .i64 (0))] (by kernel_rfl) ?_
  refine wS_end (by rfl) ?_
  refine eX_then ?_
  refine cW_seq ?_
  refine cW_region ?_
  refine wS_pure 1 [(12, .pointer (some ⟨b1, 0, none⟩))] (by kernel_rfl) ?_
  refine wS_loadA (d := 13) (T := 25) (ad := ⟨b1, 0, none⟩) (vs := [.int .i64 (p0_0), .int .i64 (p0_1), .int .i64 (p0_2), .int .i64 (p0_3)]) (by kernel_rfl) vt25 (fun i u hu => box_cells F4 0 hu (by rfl)) ?_
  refine wS_pure 1 [(14, .pointer (some ⟨b7, 0, none⟩))] (by kernel_rfl) ?_
  refine wS_loadA (d := 15) (T := 25) (ad := ⟨b7, 0, none⟩) (vs := [.int .i64 (p1_0), .int .i64 (p1_1), .int .i64 (p1_2), .int .i64 (p1_3)]) (by kernel_rfl) vt25 (fun i u hu => box_cells F10 0 hu (by rfl)) ?_
  obtain ⟨y22, hy23, hm⟩ := bindE hm
  refine wS_calls (d := 16) (f := 109) (vs := [.agg #[.int .i64 (p0_0), .int .i64 (p0_1), .int .i64 (p0_2), .int .i64 (p0_3)], .agg #[.int .i64 (p1_0), .int .i64 (p1_1), .int .i64 (p1_2), .int .i64 (p1_3)]]) (by kernel_rfl) ent109 (c_spec_l06Far hy23) ?_
  rintro _ w24 ⟨rfl, hc25⟩
  replace F4 := F4.chg hc25 notNil
  replace F10 := F10.chg hc25 notNil
  replace F17 := F17.chg hc25 notNil
  replace hB := hB.inS hc25 inNil
  replace hZ := Nat.le_trans hZ hc25.size
  refine ⟨.int .i64 (y22), rfl, ?_⟩
  refine wS_pure 1 [(7, .int .i64 (y22))] (by kernel_rfl) ?_
  refine wS_end (by rfl) ?_
  refine eX_then ?_
  refine cW_seq ?_
  refine cW_region ?_
  refine wS_pure 1 [(17, .pointer (some ⟨b7, 4, none⟩))] (by kernel_rfl) ?_
  refine wS_load1 (d := 18) (T := 2) (ad := ⟨b7, 4, none⟩) (v := .int .i64 (p1_4)) (by kernel_rfl) vt2 ((F10).cell 4) ?_
  refine wS_pure 1 [(19, .pointer (some ⟨b1, 4, none⟩))] (by kernel_rfl) ?_
  refine wS_load1 (d := 20) (T := 2) (ad := ⟨b1, 4, none⟩) (v := .int .i64 (p0_4)) (by kernel_rfl) vt2 ((F4).cell 4) ?_
  refine wS_pure 2 [(8, .int .i64 (wr (p1_4 - p0_4))), (21, .int .i64 (wr (p1_4 - p0_4)))] (by kernel_rfl) ?_
  refine wS_end (by rfl) ?_
  refine eX_then ?_
  refine cW_seq ?_
  refine cW_region ?_
  refine wS_pure 1 [(9, .int .i64 (0))] (by kernel_rfl) ?_
  refine wS_end (by rfl) ?_
  refine eX_then ?_
  refine cW_seq ?_
  refine cW_region ?_
  refine wS_pure 1 [(10, .int .i64 (0))] (by kernel_rfl) ?_
  refine wS_end (by rfl) ?_
  refine eX_then ?_
  refine cW_seq ?_
  obtain ⟨s36, hs37, hm⟩ := bindE hm
  refine cW_cut (fun a' w' => ∃ x30 : Int, ∃ x31 : Int, (x30, x31) = s36 ∧ Fr 56 [(2, .pointer (some ⟨b1, 0, none⟩)), (3, .pointer (some ⟨b7, 0, none⟩)), (4, .pointer (some ⟨b14, 0, none⟩)), (9, .int .i64 (x30)), (10, .int .i64 (x31))] a' ∧ Cl w' b1 27 [.int .i64 (p0_0), .int .i64 (p0_1), .int .i64 (p0_2), .int .i64 (p0_3), .int .i64 (p0_4)] ∧ Cl w' b7 27 [.int .i64 (p1_0), .int .i64 (p1_1), .int .i64 (p1_2), .int .i64 (p1_3), .int .i64 (p1_4)] ∧ Cl w' b14 27 [.int .i64 (0), .int .i64 (0), .int .i64 (0), .int .i64 (0), .int .i64 (0)] ∧ Chg [] w0 w' ∧ w0.heap.size ≤ w'.heap.size) ?_ ?_
  · have hm := hs37
    refine cW_seq ?_
    refine cW_region ?_
    refine wS_pure 3 [(24, .bool (decide ((wr (p1_4 - p0_4)) > y22))), (23, .int .i64 (y22)), (22, .int .i64 (wr (p1_4 - p0_4)))] (by kernel_rfl) ?_
    refine wS_end (by rfl) ?_
    refine eX_then ?_
    refine cW_prune [(2, .pointer (some ⟨b1, 0, none⟩)), (3, .pointer (some ⟨b7, 0, none⟩)), (4, .pointer (some ⟨b14, 0, none⟩)), (7, .int .i64 (y22)), (8, .int .i64 (wr (p1_4 - p0_4))), (9, .int .i64 (0)), (10, .int .i64 (0)), (24, .bool (decide ((wr (p1_4 - p0_4)) > y22)))] (by kernel_rfl) (by kernel_rfl) (fun a38 => ?_)
    refine cW_cond (t := decide ((wr (p1_4 - p0_4)) > y22)) (by kernel_rfl) (fun hb39 => ?_) (fun hb39 => ?_)
    · have hm := condT hb39 hm
      refine cW_region ?_
      refine wS_pure 2 [(9, .int .i64 (wr (p1_4 - p0_4))), (25, .int .i64 (wr (p1_4 - p0_4)))] (by kernel_rfl) ?_
      refine wS_end (by rfl) ?_
      have hq : (some ((wr (p1_4 - p0_4), 0)) : Option (Int × Int)) = some _ := hm
      replace hq := someE hq
      subst hq
      exact eX_J (fun hst => ⟨wr (p1_4 - p0_4), 0, rfl, Fr.of hst (by kernel_rfl), F4, F10, F17, hB, hZ⟩)
    · have hm := condF hb39 hm
      refine cW_seq ?_
      refine cW_region ?_
      refine wS_pure 4 [(29, .bool (decide ((wr (p1_4 - p0_4)) < (wr (0 - y22))))), (28, .int .i64 (wr (0 - y22))), (27, .int .i64 (y22)), (26, .int .i64 (wr (p1_4 - p0_4)))] (by kernel_rfl) ?_
      refine wS_end (by rfl) ?_
      refine eX_then ?_
      refine cW_cond (t := decide ((wr (p1_4 - p0_4)) < (wr (0 - y22)))) (by kernel_rfl) (fun hb40 => ?_) (fun hb40 => ?_)
      · have hm := condT hb40 hm
        refine cW_region ?_
        refine wS_pure 3 [(10, .int .i64 (wr (0 - (wr (p1_4 - p0_4))))), (31, .int .i64 (wr (0 - (wr (p1_4 - p0_4))))), (30, .int .i64 (wr (p1_4 - p0_4)))] (by kernel_rfl) ?_
        refine wS_end (by rfl) ?_
        have hq : (some ((0, wr (0 - (wr (p1_4 - p0_4))))) : Option (Int × Int)) = some _ := hm
        replace hq := someE hq
        subst hq
        exact eX_J (fun hst => ⟨0, wr (0 - (wr (p1_4 - p0_4))), rfl, Fr.of hst (by kernel_rfl), F4, F10, F17, hB, hZ⟩)
      · have hm := condF hb40 hm
        refine cW_seq ?_
        refine cW_region ?_
        refine wS_pure 5 [(9, .int .i64 (wr (Int.tdiv (wr (y22 + (wr (p1_4 - p0_4)))) 2))), (35, .int .i64 (wr (Int.tdiv (wr (y22 + (wr (p1_4 - p0_4)))) 2))), (34, .int .i64 (wr (y22 + (wr (p1_4 - p0_4))))), (33, .int .i64 (wr (p1_4 - p0_4))), (32, .int .i64 (y22))] (by kernel_rfl) ?_
        refine wS_end (by rfl) ?_
        refine eX_then ?_
        refine cW_region ?_
        refine wS_pure 4 [(10, .int .i64 (wr (y22 - (wr (Int.tdiv (wr (y22 + (wr (p1_4 - p0_4)))) 2))))), (38, .int .i64 (wr (y22 - (wr (Int.tdiv (wr (y22 + (wr (p1_4 - p0_4)))) 2))))), (37, .int .i64 (wr (Int.tdiv (wr (y22 + (wr (p1_4 - p0_4)))) 2))), (36, .int .i64 (y22))] (by kernel_rfl) ?_
        refine wS_end (by rfl) ?_
        have hq : (some ((wr (Int.tdiv (wr (y22 + (wr (p1_4 - p0_4)))) 2), wr (y22 - (wr (Int.tdiv (wr (y22 + (wr (p1_4 - p0_4)))) 2))))) : Option (Int × Int)) = some _ := hm
        replace hq := someE hq
        subst hq
        exact eX_J (fun hst => ⟨wr (Int.tdiv (wr (y22 + (wr (p1_4 - p0_4)))) 2), wr (y22 - (wr (Int.tdiv (wr (y22 + (wr (p1_4 - p0_4)))) 2))), rfl, Fr.of hst (by kernel_rfl), F4, F10, F17, hB, hZ⟩)
  · rintro a' w29 ⟨x30, x31, hJ, hF32, F33, F34, F35, hB, hZ⟩
    subst hJ
    refine Fr.goX hF32 (by kernel_rfl) ?_
    refine eX_then ?_
    refine cW_seq ?_
    obtain ⟨s241, hs242, hm⟩ := bindE hm
    refine cW_cut (fun a' w' => ∃ b228 : Nat, ∃ x229 : Int, ∃ x230 : Int, ∃ x231 : Int, ∃ x232 : Int, (x229, x230, x231, x232) = s241 ∧ Fr 56 [(2, .pointer (some ⟨b1, 0, none⟩)), (4, .pointer (some ⟨b14, 0, none⟩)), (9, .int .i64 (x30)), (10, .int .i64 (x31)), (11, .pointer (some ⟨b228, 0, none⟩))] a' ∧ Cl w' b1 27 [.int .i64 (p0_0), .int .i64 (p0_1), .int .i64 (p0_2), .int .i64 (p0_3), .int .i64 (p0_4)] ∧ Cl w' b14 27 [.int .i64 (0), .int .i64 (0), .int .i64 (0), .int .i64 (0), .int .i64 (0)] ∧ Cl w' b228 25 [.int .i64 (x229), .int .i64 (x230), .int .i64 (x231), .int .i64 (x232)] ∧ w0.heap.size ≤ b228 ∧ Dj [b1] [b228] ∧ Dj [b14] [b228] ∧ Chg [] w0 w' ∧ w0.heap.size ≤ w'.heap.size) ?_ ?_
    · have hm := hs242
      refine cW_drawnTail [] 10 (by kernel_rfl) (by kernel_rfl) (fun w243 hc244 => ?_)
      replace F33 := F33.chg hc244 notNil
      replace F34 := F34.chg hc244 notNil
      replace F35 := F35.chg hc244 notNil
      replace hB := hB.inS hc244 inNil
      replace hZ := Nat.le_trans hZ hc244.size
      have hS := Chg.refl [] w243
      have Z245 := F33
      have Z246 := F34
      have Z247 := F35
      refine wH_take [0] [0] [(39, .pointer (some ⟨b1, 0, none⟩))] (by kernel_rfl) (qT (qT (qT qZ))) (by kernel_rfl) ?_
      refine wH_loadA (i := 1) (d := 40) (T := 25) (ad := ⟨b1, 0, none⟩) (vs := [.int .i64 (p0_0), .int .i64 (p0_1), .int .i64 (p0_2), .int .i64 (p0_3)]) (by kernel_rfl) (qT (qT (qT qZ))) (by kernel_rfl) (by kernel_rfl) vt25 (fun W hW i u hu => box_cells (Z245.chg hW notNil) 0 hu (by rfl)) ?_
      refine wH_take [2, 4] [4, 2, 1, 0] [(43, .pointer (some ⟨b7, 0, none⟩)), (41, .int .i64 (x30))] (by kernel_rfl) (qT (qT (qT qZ))) (by kernel_rfl) ?_
      refine wH_loadA (i := 5) (d := 44) (T := 25) (ad := ⟨b7, 0, none⟩) (vs := [.int .i64 (p1_0), .int .i64 (p1_1), .int .i64 (p1_2), .int .i64 (p1_3)]) (by kernel_rfl) (qT (qT (qT qZ))) (by kernel_rfl) (by kernel_rfl) vt25 (fun W hW i u hu => box_cells (Z246.chg hW notNil) 0 hu (by rfl)) ?_
      refine wH_take [6] [6, 5, 4, 2, 1, 0] [(45, .int .i64 (x31))] (by kernel_rfl) (qT (qT (qT qZ))) (by kernel_rfl) ?_
      refine wH_all [3, 9] (by rfl) (by kernel_rfl) (by simp) ⟨⟨by kernel_rfl, ?_⟩, ⟨by kernel_rfl, ?_⟩, trivial⟩
      · skip
        obtain ⟨y248, hy249, hm⟩ := bindE hm
        refine wS_calls (d := 42) (f := 161) (vs := [.agg #[.int .i64 (p0_0), .int .i64 (p0_1), .int .i64 (p0_2), .int .i64 (p0_3)], .int .i64 (x30)]) (by kernel_rfl) ent161 (c_spec_l06Grow hy249) ?_
        rintro _ w250 ⟨rfl, hc251⟩
        replace F33 := F33.chg hc251 notNil
        replace F34 := F34.chg hc251 notNil
        replace F35 := F35.chg hc251 notNil
        replace hB := hB.inS hc251 inNil
        have hSz := hS
        replace hS := hS.inS hc251 inNil
        replace hZ := Nat.le_trans hZ hc251.size
        refine ⟨.agg #[.int .i64 (y248.1), .int .i64 (y248.2.1), .int .i64 (y248.2.2.1), .int .i64 (y248.2.2.2)], rfl, ?_⟩
        refine wS_end (by kernel_rfl) ?_
        refine eX_KH hS ?_
        refine wH_all [7, 9] (by rfl) (by kernel_rfl) (by simp) ⟨⟨by kernel_rfl, ?_⟩, ⟨by kernel_rfl, ?_⟩, trivial⟩
        · skip
          obtain ⟨y252, hy253, hm⟩ := bindE hm
          refine wS_calls (d := 46) (f := 161) (vs := [.agg #[.int .i64 (p1_0), .int .i64 (p1_1), .int .i64 (p1_2), .int .i64 (p1_3)], .int .i64 (x31)]) (by kernel_rfl) ent161 (c_spec_l06Grow hy253) ?_
          rintro _ w254 ⟨rfl, hc255⟩
          replace F33 := F33.chg hc255 notNil
          replace F34 := F34.chg hc255 notNil
          replace F35 := F35.chg hc255 notNil
          replace hB := hB.inS hc255 inNil
          have hSz := hS
          replace hS := hS.inS hc255 inNil
          replace hZ := Nat.le_trans hZ hc255.size
          refine ⟨.agg #[.int .i64 (y252.1), .int .i64 (y252.2.1), .int .i64 (y252.2.2.1), .int .i64 (y252.2.2.2)], rfl, ?_⟩
          refine wS_end (by kernel_rfl) ?_
          refine eX_KH hS ?_
          refine wH_all [8, 9] (by rfl) (by kernel_rfl) (by simp) ⟨⟨by kernel_rfl, ?_⟩, ⟨by kernel_rfl, ?_⟩, trivial⟩
          · skip
            obtain ⟨y256, hy257, hm⟩ := bindE hm
            refine wS_calls (d := 47) (f := 160) (vs := [.agg #[.int .i64 (y248.1), .int .i64 (y248.2.1), .int .i64 (y248.2.2.1), .int .i64 (y248.2.2.2)], .agg #[.int .i64 (y252.1), .int .i64 (y252.2.1), .int .i64 (y252.2.2.1), .int .i64 (y252.2.2.2)]]) (by kernel_rfl) ent160 (c_spec_l06Meet hy257) ?_
            rintro _ w258 ⟨rfl, hc259⟩
            replace F33 := F33.chg hc259 notNil
            replace F34 := F34.chg hc259 notNil
            replace F35 := F35.chg hc259 notNil
            replace hB := hB.inS hc259 inNil
            have hSz := hS
            replace hS := hS.inS hc259 inNil
            replace hZ := Nat.le_trans hZ hc259.size
            refine ⟨.agg #[.int .i64 (y256.1), .int .i64 (y256.2.1), .int .i64 (y256.2.2.1), .int .i64 (y256.2.2.2)], rfl, ?_⟩
            refine wS_end (by kernel_rfl) ?_
            refine eX_KH hS ?_
            refine wH_all [9] (by rfl) (by kernel_rfl) (by simp) ⟨⟨by kernel_rfl, ?_⟩, trivial⟩
            refine wS_alloc (d := 11) (T := 25) (z := .agg #[.int .i64 (0), .int .i64 (0), .int .i64 (0), .int .i64 (0)]) (by kernel_rfl) (by kernel_rfl) ?_
            intro b260 w261 G262 F263 hc264
            replace F263 : Cl w261 b260 25 [.int .i64 (0), .int .i64 (0), .int .i64 (0), .int .i64 (0)] := F263
            have D266 : Dj [b1] [b260] := Dj.of (lt1 F33.lt) (low1 G262)
            have D267 : Dj [b7] [b260] := Dj.of (lt1 F34.lt) (low1 G262)
            have D268 : Dj [b14] [b260] := Dj.of (lt1 F35.lt) (low1 G262)
            replace F33 := F33.chg hc264 notNil
            replace F34 := F34.chg hc264 notNil
            replace F35 := F35.chg hc264 notNil
            replace hB := hB.inS hc264 inNil
            have hSz := hS
            replace hS := hS.inS hc264 inNil
            have Gz269 := low1 (Nat.le_trans hSz.size G262)
            replace G262 := Nat.le_trans hZ G262
            replace hZ := Nat.le_trans hZ hc264.size
            refine wS_end (by kernel_rfl) ?_
            refine eX_KH hS ?_
            refine wH_done (by kernel_rfl) ?_
            refine eX_tail ?_
            refine wS_store (T := 25) (g := b260) (o := 0) (ad := ⟨b260, 0, none⟩) (v := .agg #[.int .i64 (y256.1), .int .i64 (y256.2.1), .int .i64 (y256.2.2.1), .int .i64 (y256.2.2.2)]) (vs := [.int .i64 (y256.1), .int .i64 (y256.2.1), .int .i64 (y256.2.2.1), .int .i64 (y256.2.2.2)]) (by kernel_rfl) (by rfl) sz25 (by rfl) (by rfl) F263 (by simp only [List.length_cons, List.length_nil]; omega) ?_
            intro w270 F271 hc272
            replace F33 := F33.chg hc272 (dj1 D266)
            replace F34 := F34.chg hc272 (dj1 D267)
            replace F35 := F35.chg hc272 (dj1 D268)
            replace hB := hB.inS hc272 (inLow (low1 G262))
            replace hZ := Nat.le_trans hZ hc272.size
            replace F271 : Cl w270 b260 25 [.int .i64 (y256.1), .int .i64 (y256.2.1), .int .i64 (y256.2.2.1), .int .i64 (y256.2.2.2)] := F271
            clear F263
            refine wS_end (by rfl) ?_
            have hq : (some ((y256.1, y256.2.1, y256.2.2.1, y256.2.2.2)) : Option (Int × Int × Int × Int)) = some _ := hm
            replace hq := someE hq
            subst hq
            exact eX_J (fun hst => ⟨b260, y256.1, y256.2.1, y256.2.2.1, y256.2.2.2, rfl, Fr.of hst (by kernel_rfl), F33, F35, F271, G262, D266, D268, hB, hZ⟩)
          · skip
            refine wS_alloc (d := 11) (T := 25) (z := .agg #[.int .i64 (0), .int .i64 (0), .int .i64 (0), .int .i64 (0)]) (by kernel_rfl) (by kernel_rfl) ?_
            intro b273 w274 G275 F276 hc277
            replace F276 : Cl w274 b273 25 [.int .i64 (0), .int .i64 (0), .int .i64 (0), .int .i64 (0)] := F276
            have D279 : Dj [b1] [b273] := Dj.of (lt1 F33.lt) (low1 G275)
            have D280 : Dj [b7] [b273] := Dj.of (lt1 F34.lt) (low1 G275)
            have D281 : Dj [b14] [b273] := Dj.of (lt1 F35.lt) (low1 G275)
            replace F33 := F33.chg hc277 notNil
            replace F34 := F34.chg hc277 notNil
            replace F35 := F35.chg hc277 notNil
            replace hB := hB.inS hc277 inNil
            have hSz := hS
            replace hS := hS.inS hc277 inNil
            have Gz282 := low1 (Nat.le_trans hSz.size G275)
            replace G275 := Nat.le_trans hZ G275
            replace hZ := Nat.le_trans hZ hc277.size
            refine wS_end (by kernel_rfl) ?_
            refine eX_KH hS ?_
            refine wH_all [8] (by rfl) (by kernel_rfl) (by simp) ⟨⟨by kernel_rfl, ?_⟩, trivial⟩
            obtain ⟨y283, hy284, hm⟩ := bindE hm
            refine wS_calls (d := 47) (f := 160) (vs := [.agg #[.int .i64 (y248.1), .int .i64 (y248.2.1), .int .i64 (y248.2.2.1), .int .i64 (y248.2.2.2)], .agg #[.int .i64 (y252.1), .int .i64 (y252.2.1), .int .i64 (y252.2.2.1), .int .i64 (y252.2.2.2)]]) (by kernel_rfl) ent160 (c_spec_l06Meet hy284) ?_
            rintro _ w285 ⟨rfl, hc286⟩
            replace F33 := F33.chg hc286 notNil
            replace F34 := F34.chg hc286 notNil
            replace F35 := F35.chg hc286 notNil
            replace F276 := F276.chg hc286 notNil
            replace hB := hB.inS hc286 inNil
            have hSz := hS
            replace hS := hS.inS hc286 inNil
            replace hZ := Nat.le_trans hZ hc286.size
            refine ⟨.agg #[.int .i64 (y283.1), .int .i64 (y283.2.1), .int .i64 (y283.2.2.1), .int .i64 (y283.2.2.2)], rfl, ?_⟩
            refine wS_end (by kernel_rfl) ?_
            refine eX_KH hS ?_
            refine wH_done (by kernel_rfl) ?_
            refine eX_tail ?_
            refine wS_store (T := 25) (g := b273) (o := 0) (ad := ⟨b273, 0, none⟩) (v := .agg #[.int .i64 (y283.1), .int .i64 (y283.2.1), .int .i64 (y283.2.2.1), .int .i64 (y283.2.2.2)]) (vs := [.int .i64 (y283.1), .int .i64 (y283.2.1), .int .i64 (y283.2.2.1), .int .i64 (y283.2.2.2)]) (by kernel_rfl) (by rfl) sz25 (by rfl) (by rfl) F276 (by simp only [List.length_cons, List.length_nil]; omega) ?_
            intro w287 F288 hc289
            replace F33 := F33.chg hc289 (dj1 D279)
            replace F34 := F34.chg hc289 (dj1 D280)
            replace F35 := F35.chg hc289 (dj1 D281)
            replace hB := hB.inS hc289 (inLow (low1 G275))
            replace hZ := Nat.le_trans hZ hc289.size
            replace F288 : Cl w287 b273 25 [.int .i64 (y283.1), .int .i64 (y283.2.1), .int .i64 (y283.2.2.1), .int .i64 (y283.2.2.2)] := F288
            clear F276
            refine wS_end (by rfl) ?_
            have hq : (some ((y283.1, y283.2.1, y283.2.2.1, y283.2.2.2)) : Option (Int × Int × Int × Int)) = some _ := hm
            replace hq := someE hq
            subst hq
            exact eX_J (fun hst => ⟨b273, y283.1, y283.2.1, y283.2.2.1, y283.2.2.2, rfl, Fr.of hst (by kernel_rfl), F33, F35, F288, G275, D279, D281, hB, hZ⟩)
        · skip
          refine wS_alloc (d := 11) (T := 25) (z := .agg #[.int .i64 (0), .int .i64 (0), .int .i64 (0), .int .i64 (0)]) (by kernel_rfl) (by kernel_rfl) ?_
          intro b290 w291 G292 F293 hc294
          replace F293 : Cl w291 b290 25 [.int .i64 (0), .int .i64 (0), .int .i64 (0), .int .i64 (0)] := F293
          have D296 : Dj [b1] [b290] := Dj.of (lt1 F33.lt) (low1 G292)
          have D297 : Dj [b7] [b290] := Dj.of (lt1 F34.lt) (low1 G292)
          have D298 : Dj [b14] [b290] := Dj.of (lt1 F35.lt) (low1 G292)
          replace F33 := F33.chg hc294 notNil
          replace F34 := F34.chg hc294 notNil
          replace F35 := F35.chg hc294 notNil
          replace hB := hB.inS hc294 inNil
          have hSz := hS
          replace hS := hS.inS hc294 inNil
          have Gz299 := low1 (Nat.le_trans hSz.size G292)
          replace G292 := Nat.le_trans hZ G292
          replace hZ := Nat.le_trans hZ hc294.size
          refine wS_end (by kernel_rfl) ?_
          refine eX_KH hS ?_
          refine wH_all [7] (by rfl) (by kernel_rfl) (by simp) ⟨⟨by kernel_rfl, ?_⟩, trivial⟩
          obtain ⟨y300, hy301, hm⟩ := bindE hm
          refine wS_calls (d := 46) (f := 161) (vs := [.agg #[.int .i64 (p1_0), .int .i64 (p1_1), .int .i64 (p1_2), .int .i64 (p1_3)], .int .i64 (x31)]) (by kernel_rfl) ent161 (c_spec_l06Grow hy301) ?_
          rintro _ w302 ⟨rfl, hc303⟩
          replace F33 := F33.chg hc303 notNil
          replace F34 := F34.chg hc303 notNil
          replace F35 := F35.chg hc303 notNil
          replace F293 := F293.chg hc303 notNil
          replace hB := hB.inS hc303 inNil
          have hSz := hS
          replace hS := hS.inS hc303 inNil
          replace hZ := Nat.le_trans hZ hc303.size
          refine ⟨.agg #[.int .i64 (y300.1), .int .i64 (y300.2.1), .int .i64 (y300.2.2.1), .int .i64 (y300.2.2.2)], rfl, ?_⟩
          refine wS_end (by kernel_rfl) ?_
          refine eX_KH hS ?_
          refine wH_all [8] (by rfl) (by kernel_rfl) (by simp) ⟨⟨by kernel_rfl, ?_⟩, trivial⟩
          obtain ⟨y304, hy305, hm⟩ := bindE hm
          refine wS_calls (d := 47) (f := 160) (vs := [.agg #[.int .i64 (y248.1), .int .i64 (y248.2.1), .int .i64 (y248.2.2.1), .int .i64 (y248.2.2.2)], .agg #[.int .i64 (y300.1), .int .i64 (y300.2.1), .int .i64 (y300.2.2.1), .int .i64 (y300.2.2.2)]]) (by kernel_rfl) ent160 (c_spec_l06Meet hy305) ?_
          rintro _ w306 ⟨rfl, hc307⟩
          replace F33 := F33.chg hc307 notNil
          replace F34 := F34.chg hc307 notNil
          replace F35 := F35.chg hc307 notNil
          replace F293 := F293.chg hc307 notNil
          replace hB := hB.inS hc307 inNil
          have hSz := hS
          replace hS := hS.inS hc307 inNil
          replace hZ := Nat.le_trans hZ hc307.size
          refine ⟨.agg #[.int .i64 (y304.1), .int .i64 (y304.2.1), .int .i64 (y304.2.2.1), .int .i64 (y304.2.2.2)], rfl, ?_⟩
          refine wS_end (by kernel_rfl) ?_
          refine eX_KH hS ?_
          refine wH_done (by kernel_rfl) ?_
          refine eX_tail ?_
          refine wS_store (T := 25) (g := b290) (o := 0) (ad := ⟨b290, 0, none⟩) (v := .agg #[.int .i64 (y304.1), .int .i64 (y304.2.1), .int .i64 (y304.2.2.1), .int .i64 (y304.2.2.2)]) (vs := [.int .i64 (y304.1), .int .i64 (y304.2.1), .int .i64 (y304.2.2.1), .int .i64 (y304.2.2.2)]) (by kernel_rfl) (by rfl) sz25 (by rfl) (by rfl) F293 (by simp only [List.length_cons, List.length_nil]; omega) ?_
          intro w308 F309 hc310
          replace F33 := F33.chg hc310 (dj1 D296)
          replace F34 := F34.chg hc310 (dj1 D297)
          replace F35 := F35.chg hc310 (dj1 D298)
          replace hB := hB.inS hc310 (inLow (low1 G292))
          replace hZ := Nat.le_trans hZ hc310.size
          replace F309 : Cl w308 b290 25 [.int .i64 (y304.1), .int .i64 (y304.2.1), .int .i64 (y304.2.2.1), .int .i64 (y304.2.2.2)] := F309
          clear F293
          refine wS_end (by rfl) ?_
          have hq : (some ((y304.1, y304.2.1, y304.2.2.1, y304.2.2.2)) : Option (Int × Int × Int × Int)) = some _ := hm
          replace hq := someE hq
          subst hq
          exact eX_J (fun hst => ⟨b290, y304.1, y304.2.1, y304.2.2.1, y304.2.2.2, rfl, Fr.of hst (by kernel_rfl), F33, F35, F309, G292, D296, D298, hB, hZ⟩)
      · skip
        refine wS_alloc (d := 11) (T := 25) (z := .agg #[.int .i64 (0), .int .i64 (0), .int .i64 (0), .int .i64 (0)]) (by kernel_rfl) (by kernel_rfl) ?_
        intro b311 w312 G313 F314 hc315
        replace F314 : Cl w312 b311 25 [.int .i64 (0), .int .i64 (0), .int .i64 (0), .int .i64 (0)] := F314
        have D317 : Dj [b1] [b311] := Dj.of (lt1 F33.lt) (low1 G313)
        have D318 : Dj [b7] [b311] := Dj.of (lt1 F34.lt) (low1 G313)
        have D319 : Dj [b14] [b311] := Dj.of (lt1 F35.lt) (low1 G313)
        replace F33 := F33.chg hc315 notNil
        replace F34 := F34.chg hc315 notNil
        replace F35 := F35.chg hc315 notNil
        replace hB := hB.inS hc315 inNil
        have hSz := hS
        replace hS := hS.inS hc315 inNil
        have Gz320 := low1 (Nat.le_trans hSz.size G313)
        replace G313 := Nat.le_trans hZ G313
        replace hZ := Nat.le_trans hZ hc315.size
        refine wS_end (by kernel_rfl) ?_
        refine eX_KH hS ?_
        refine wH_all [3] (by rfl) (by kernel_rfl) (by simp) ⟨⟨by kernel_rfl, ?_⟩, trivial⟩
        obtain ⟨y321, hy322, hm⟩ := bindE hm
        refine wS_calls (d := 42) (f := 161) (vs := [.agg #[.int .i64 (p0_0), .int .i64 (p0_1), .int .i64 (p0_2), .int .i64 (p0_3)], .int .i64 (x30)]) (by kernel_rfl) ent161 (c_spec_l06Grow hy322) ?_
        rintro _ w323 ⟨rfl, hc324⟩
        replace F33 := F33.chg hc324 notNil
        replace F34 := F34.chg hc324 notNil
        replace F35 := F35.chg hc324 notNil
        replace F314 := F314.chg hc324 notNil
        replace hB := hB.inS hc324 inNil
        have hSz := hS
        replace hS := hS.inS hc324 inNil
        replace hZ := Nat.le_trans hZ hc324.size
        refine ⟨.agg #[.int .i64 (y321.1), .int .i64 (y321.2.1), .int .i64 (y321.2.2.1), .int .i64 (y321.2.2.2)], rfl, ?_⟩
        refine wS_end (by kernel_rfl) ?_
        refine eX_KH hS ?_
        refine wH_all [7] (by rfl) (by kernel_rfl) (by simp) ⟨⟨by kernel_rfl, ?_⟩, trivial⟩
        obtain ⟨y325, hy326, hm⟩ := bindE hm
        refine wS_calls (d := 46) (f := 161) (vs := [.agg #[.int .i64 (p1_0), .int .i64 (p1_1), .int .i64 (p1_2), .int .i64 (p1_3)], .int .i64 (x31)]) (by kernel_rfl) ent161 (c_spec_l06Grow hy326) ?_
        rintro _ w327 ⟨rfl, hc328⟩
        replace F33 := F33.chg hc328 notNil
        replace F34 := F34.chg hc328 notNil
        replace F35 := F35.chg hc328 notNil
        replace F314 := F314.chg hc328 notNil
        replace hB := hB.inS hc328 inNil
        have hSz := hS
        replace hS := hS.inS hc328 inNil
        replace hZ := Nat.le_trans hZ hc328.size
        refine ⟨.agg #[.int .i64 (y325.1), .int .i64 (y325.2.1), .int .i64 (y325.2.2.1), .int .i64 (y325.2.2.2)], rfl, ?_⟩
        refine wS_end (by kernel_rfl) ?_
        refine eX_KH hS ?_
        refine wH_all [8] (by rfl) (by kernel_rfl) (by simp) ⟨⟨by kernel_rfl, ?_⟩, trivial⟩
        obtain ⟨y329, hy330, hm⟩ := bindE hm
        refine wS_calls (d := 47) (f := 160) (vs := [.agg #[.int .i64 (y321.1), .int .i64 (y321.2.1), .int .i64 (y321.2.2.1), .int .i64 (y321.2.2.2)], .agg #[.int .i64 (y325.1), .int .i64 (y325.2.1), .int .i64 (y325.2.2.1), .int .i64 (y325.2.2.2)]]) (by kernel_rfl) ent160 (c_spec_l06Meet hy330) ?_
        rintro _ w331 ⟨rfl, hc332⟩
        replace F33 := F33.chg hc332 notNil
        replace F34 := F34.chg hc332 notNil
        replace F35 := F35.chg hc332 notNil
        replace F314 := F314.chg hc332 notNil
        replace hB := hB.inS hc332 inNil
        have hSz := hS
        replace hS := hS.inS hc332 inNil
        replace hZ := Nat.le_trans hZ hc332.size
        refine ⟨.agg #[.int .i64 (y329.1), .int .i64 (y329.2.1), .int .i64 (y329.2.2.1), .int .i64 (y329.2.2.2)], rfl, ?_⟩
        refine wS_end (by kernel_rfl) ?_
        refine eX_KH hS ?_
        refine wH_done (by kernel_rfl) ?_
        refine eX_tail ?_
        refine wS_store (T := 25) (g := b311) (o := 0) (ad := ⟨b311, 0, none⟩) (v := .agg #[.int .i64 (y329.1), .int .i64 (y329.2.1), .int .i64 (y329.2.2.1), .int .i64 (y329.2.2.2)]) (vs := [.int .i64 (y329.1), .int .i64 (y329.2.1), .int .i64 (y329.2.2.1), .int .i64 (y329.2.2.2)]) (by kernel_rfl) (by rfl) sz25 (by rfl) (by rfl) F314 (by simp only [List.length_cons, List.length_nil]; omega) ?_
        intro w333 F334 hc335
        replace F33 := F33.chg hc335 (dj1 D317)
        replace F34 := F34.chg hc335 (dj1 D318)
        replace F35 := F35.chg hc335 (dj1 D319)
        replace hB := hB.inS hc335 (inLow (low1 G313))
        replace hZ := Nat.le_trans hZ hc335.size
        replace F334 : Cl w333 b311 25 [.int .i64 (y329.1), .int .i64 (y329.2.1), .int .i64 (y329.2.2.1), .int .i64 (y329.2.2.2)] := F334
        clear F314
        refine wS_end (by rfl) ?_
        have hq : (some ((y329.1, y329.2.1, y329.2.2.1, y329.2.2.2)) : Option (Int × Int × Int × Int)) = some _ := hm
        replace hq := someE hq
        subst hq
        exact eX_J (fun hst => ⟨b311, y329.1, y329.2.1, y329.2.2.1, y329.2.2.2, rfl, Fr.of hst (by kernel_rfl), F33, F35, F334, G313, D317, D319, hB, hZ⟩)
    · rintro a' w227 ⟨b228, x229, x230, x231, x232, hJ, hF234, F235, F236, F237, G238, D239, D240, hB, hZ⟩
      subst hJ
      refine Fr.goX hF234 (by kernel_rfl) ?_
      refine eX_then ?_
      refine cW_seq ?_
      refine cW_region ?_
      refine wS_loadA (d := 48) (T := 25) (ad := ⟨b228, 0, none⟩) (vs := [.int .i64 (x229), .int .i64 (x230), .int .i64 (x231), .int .i64 (x232)]) (by kernel_rfl) vt25 (fun i u hu => box_cells F237 0 hu (by rfl)) ?_
      refine wS_pure 1 [(49, .pointer (some ⟨b1, 4, none⟩))] (by kernel_rfl) ?_
      refine wS_load1 (d := 50) (T := 2) (ad := ⟨b1, 4, none⟩) (v := .int .i64 (p0_4)) (by kernel_rfl) vt2 ((F235).cell 4) ?_
      refine wS_pure 5 [(55, .int .i64 (x31)), (54, .int .i64 (x30)), (53, .agg #[.int .i64 (x229), .int .i64 (x230), .int .i64 (x231), .int .i64 (x232), .int .i64 (wr (p0_4 + x30))]), (52, .int .i64 (wr (p0_4 + x30))), (51, .int .i64 (x30))] (by kernel_rfl) ?_
      refine wS_store (T := 27) (g := b14) (o := 0) (ad := ⟨b14, 0, none⟩) (v := .agg #[.int .i64 (x229), .int .i64 (x230), .int .i64 (x231), .int .i64 (x232), .int .i64 (wr (p0_4 + x30))]) (vs := [.int .i64 (x229), .int .i64 (x230), .int .i64 (x231), .int .i64 (x232), .int .i64 (wr (p0_4 + x30))]) (by kernel_rfl) (by rfl) sz27 (by rfl) (by rfl) F236 (by simp only [List.length_cons, List.length_nil]; omega) ?_
      intro w336 F337 hc338
      replace F235 := F235.chg hc338 (dj1 D20)
      replace F237 := F237.chg hc338 (dj1 (D240).symm)
      replace hB := hB.inS hc338 (inLow (low1 G16))
      replace hZ := Nat.le_trans hZ hc338.size
      replace F337 : Cl w336 b14 27 [.int .i64 (x229), .int .i64 (x230), .int .i64 (x231), .int .i64 (x232), .int .i64 (wr (p0_4 + x30))] := F337
      clear F236
      refine wS_pure 2 [(6, .int .i64 (x31)), (5, .int .i64 (x30))] (by kernel_rfl) ?_
      refine wS_end (by rfl) ?_
      refine eX_then ?_
      refine cW_ret ?_
      have hq : (some (((x229, x230, x231, x232, wr (p0_4 + x30)), x30, x31)) : Option ((Int × Int × Int × Int × Int) × (Int) × (Int))) = some _ := hm
      replace hq := someE hq
      subst hq
      refine eX_ret (vs := [.agg #[.int .i64 (x229), .int .i64 (x230), .int .i64 (x231), .int .i64 (x232), .int .i64 (wr (p0_4 + x30))], .int .i64 (x30), .int .i64 (x31)]) [.cell 4 27, .tmp 5, .tmp 6] (by rfl) ⟨⟨⟨b14, 0, none⟩, by kernel_rfl, run_loadVarA (vs := [.int .i64 (x229), .int .i64 (x230), .int .i64 (x231), .int .i64 (x232), .int .i64 (wr (p0_4 + x30))]) vt27 (fun i u hu => by exact box_cells F337 0 hu (by rfl))⟩, ⟨by (show lkE _ _ _ = _); kernel_rfl, ⟨by (show lkE _ _ _ = _); kernel_rfl, trivial⟩⟩⟩ ?_
      exact ⟨rfl, hB⟩

set_option maxRecDepth 100000 in
/-- spec.l06Tree -/
theorem c_spec_l06Tree {w0 : World} {l0 : List (Int × Int)} {A0 : Option Addr} {cap0 : Nat} {fp0 : List Nat} {l1 : List (List (Int))} {A1 : Option Addr} {cap1 : Nat} {fp1 : List Nat} {r : (List (Int × Int × Int × Int × Int)) × (List (Int))} (hm : m_spec_l06Tree l0 l1 = some r) (F0 : Sl 2 encII w0 fp0 A0 l0) (F1 : SlR 1 encI w0 fp1 A1 l1) :
    Calls Try.prog 108 #[.slice A0 (l0).length cap0, .slice A1 (l1).length cap1] w0 fun e w' => ∃ A100 cap100 fp100, ∃ A101 cap101 fp101, e = .returned (.tuple #[.slice A100 (r.1).length cap100, .slice A101 (r.2).length cap101]) ∧ Ow 5 encIIIII 27 w' fp100 A100 cap100 r.1 ∧ (∀ x ∈ fp100, w0.heap.size ≤ x) ∧ Ow 1 encI 2 w' fp101 A101 cap101 r.2 ∧ (∀ x ∈ fp101, w0.heap.size ≤ x) ∧ Dj fp100 fp101 ∧ Chg [] w0 w' := by
  have L0 := F0.low
  have L1 := F1.low
  have hB : Chg [] w0 w0 := Chg.refl _ _
  have hZ := Nat.le_refl w0.heap.size
  unfold m_spec_l06Tree at hm
  refine enterE (N := 89) Try.func108 (by rfl) Try.ntmps108 (by simp) [(0, .slice A0 (l0).length cap0), (1, .slice A1 (l1).length cap1)] (by rfl) (by kernel_rfl) (fun a => ?_)
  refine cW_seq ?_
  refine cW_region ?_
  refine wS_pure 2 [(5, .slice none 0 0), (4, .slice none 0 0)] (by kernel_rfl) ?_
  refine wS_end (by rfl) ?_
  refine eX_then ?_
  refine cW_seq ?_
  refine cW_region ?_
  refine wS_bs0 (α := Int × Int × Int × Int × Int) (enc := encIIIII) (d := 13) (t := 61) (T := 27) (by kernel_rfl) el61 ?_
  intro b3 w4 G5 F6 hc7
  replace F0 := F0.chg hc7 Dj.nil
  replace F1 := F1.chg hc7 Dj.nil
  replace hB := hB.inS hc7 inNil
  replace G5 := Nat.le_trans hZ G5
  replace G5 := low1 G5
  replace hZ := Nat.le_trans hZ hc7.size
  refine wS_pure 1 [(6, .slice (some ⟨b3, 0, none⟩) (([] : List (Int × Int × Int × Int × Int))).length 0)] (by kernel_rfl) ?_
  refine wS_end (by rfl) ?_
  refine eX_then ?_
  refine cW_seq ?_
  refine cW_region ?_
  refine wS_bs0 (α := Int) (enc := encI) (d := 14) (t := 38) (T := 2) (by kernel_rfl) el38 ?_
  intro b9 w10 G11 F12 hc13
  have D15 : Dj [b3] [b9] := Dj.of F6.low (low1 G11)
  replace F0 := F0.chg hc13 Dj.nil
  replace F1 := F1.chg hc13 Dj.nil
  replace F6 := F6.chg hc13 Dj.nil
  replace hB := hB.inS hc13 inNil
  replace G11 := Nat.le_trans hZ G11
  replace G11 := low1 G11
  replace hZ := Nat.le_trans hZ hc13.size
  refine wS_pure 1 [(7, .slice (some ⟨b9, 0, none⟩) (([] : List (Int))).length 0)] (by kernel_rfl) ?_
  refine wS_end (by rfl) ?_
  refine eX_then ?_
  refine cW_seq ?_
  refine cW_seq ?_
  refine cW_region ?_
  refine wS_pure 1 [(8, .int .i64 (0))] (by kernel_rfl) ?_
  refine wS_end (by rfl) ?_
  refine eX_then ?_
  obtain ⟨r176, hr177, hm⟩ := bindE hm
  have hm178 := hm
  refine cW_cut (fun a' w' => ∃ l139 : List (Int × Int × Int × Int × Int), ∃ A140 : Option Addr, ∃ cap141 : Nat, ∃ fp142 : List Nat, ∃ l144 : List (Int), ∃ A145 : Option Addr, ∃ cap146 : Nat, ∃ fp147 : List Nat, (l139, l144) = r176 ∧ Fr 89 [(1, .slice A1 (l1).length cap1), (6, .slice A140 (l139).length cap141), (7, .slice A145 (l144).length cap146)] a' ∧ SlR 1 encI w' fp1 A1 l1 ∧ Ow 5 encIIIII 27 w' fp142 A140 cap141 l139 ∧ Ow 1 encI 2 w' fp147 A145 cap146 l144 ∧ (∀ x ∈ fp142, w0.heap.size ≤ x) ∧ (∀ x ∈ fp147, w0.heap.size ≤ x) ∧ Dj fp147 fp142 ∧ Chg [] w0 w' ∧ w0.heap.size ≤ w'.heap.size) ?_ ?_
  · refine cW_block ?_
    refine cW_loop _ (fun (s179 : (List (Int × Int × Int × Int × Int)) × (List (Int)) × Int) a' w' => ∃ l157 : List (Int × Int × Int × Int × Int), ∃ A158 : Option Addr, ∃ cap159 : Nat, ∃ fp160 : List Nat, ∃ l162 : List (Int), ∃ A163 : Option Addr, ∃ cap164 : Nat, ∃ fp165 : List Nat, ∃ x167 : Int, (l157, l162, x167) = s179 ∧ Fr 89 [(0, .slice A0 (l0).length cap0), (1, .slice A1 (l1).length cap1), (6, .slice A158 (l157).length cap159), (7, .slice A163 (l162).length cap164), (8, .int .i64 (x167))] a' ∧ Sl 2 encII w' fp0 A0 l0 ∧ SlR 1 encI w' fp1 A1 l1 ∧ Ow 5 encIIIII 27 w' fp160 A158 cap159 l157 ∧ Ow 1 encI 2 w' fp165 A163 cap164 l162 ∧ (∀ x ∈ fp160, w0.heap.size ≤ x) ∧ (∀ x ∈ fp165, w0.heap.size ≤ x) ∧ Dj fp165 fp160 ∧ Chg [] w0 w' ∧ w0.heap.size ≤ w'.heap.size) hr177 (fun hst => ⟨([] : List (Int × Int × Int × Int × Int)), (some ⟨b3, 0, none⟩), 0, [b3], ([] : List (Int)), (some ⟨b9, 0, none⟩), 0, [b9], 0, rfl, Fr.of hst (by kernel_rfl), F0, F1, F6, F12, G5, G11, (D15).symm, hB, hZ⟩) ?_
    rintro _ c180 a' w156 ⟨l157, A158, cap159, fp160, l162, A163, cap164, fp165, x167, rfl, hF168, F169, F170, F171, F172, G173, G174, D175, hB, hZ⟩ hx181
    refine Fr.goOn hF168 (by kernel_rfl) ?_
    have hm := hx181
    unfold m_spec_l06Tree_s1 at hm
    refine cW_seq ?_
    refine cW_seq ?_
    refine cW_region ?_
    refine wS_pure 4 [(18, .bool (decide (x167 < (((l0).length : Int))))), (17, .int .i64 (((l0).length : Int))), (16, .slice A0 (l0).length cap0), (15, .int .i64 (x167))] (by kernel_rfl) ?_
    refine wS_end (by rfl) ?_
    refine eX_then ?_
    refine cW_cond (t := decide (x167 < (((l0).length : Int)))) (by kernel_rfl) (fun hb182 => ?_) (fun hb182 => ?_)
    · have hm := condT hb182 hm
      refine cW_skip ?_
      refine eX_then ?_
      refine cW_seq ?_
      refine cW_block ?_
      refine cW_seq ?_
      refine cW_region ?_
      refine wS_pure 3 [(23, .int .i64 (x167)), (22, .slice A0 (l0).length cap0), (21, .slice A158 (l157).length cap159)] (by kernel_rfl) ?_
      obtain ⟨x183, hx184, hm⟩ := bindE hm
      refine wS_idx (d := 24) (T := 58) (A := A0) (n := (l0).length) (cap := cap0) (kd := .i64) (m := x167) (by kernel_rfl) sl58 (F169.is hx184) ?_
      refine wS_loadA (d := 25) (T := 116) (ad := (elA A0 2 (x167) 0)) (vs := [.int .i64 (x183.1), .int .i64 (x183.2)]) (by kernel_rfl) vt116 (fun i u hu => Sl.cells_at F169 hx184 0 hu (by rfl)) ?_
      obtain ⟨y185, hy186, hm⟩ := bindE hm
      refine wS_calls (d := 26) (f := 143) (vs := [.agg #[.int .i64 (x183.1), .int .i64 (x183.2)]]) (by kernel_rfl) ent143 (c_spec_l06Leaf hy186) ?_
      rintro _ w187 ⟨rfl, hc188⟩
      replace F169 := F169.chg hc188 Dj.nil
      replace F170 := F170.chg hc188 Dj.nil
      replace F171 := F171.chg hc188 Dj.nil
      replace F172 := F172.chg hc188 Dj.nil
      replace hB := hB.inS hc188 inNil
      replace hZ := Nat.le_trans hZ hc188.size
      refine ⟨.agg #[.int .i64 (y185.1), .int .i64 (y185.2.1), .int .i64 (y185.2.2.1), .int .i64 (y185.2.2.2)], rfl, ?_⟩
      refine wS_pure 1 [(27, .agg #[.int .i64 (y185.1), .int .i64 (y185.2.1), .int .i64 (y185.2.2.1), .int .i64 (y185.2.2.2), .int .i64 (0)])] (by kernel_rfl) ?_
      refine wS_bs (enc := encIIIII) ([(y185.1, y185.2.1, y185.2.2.1, y185.2.2.2, 0)] : List (Int × Int × Int × Int × Int)) [.int .i64 (y185.1), .int .i64 (y185.2.1), .int .i64 (y185.2.2.1), .int .i64 (y185.2.2.2), .int .i64 (0)] (d := 28) (t := 61) (T := 27) (n := 1) (ps := [(0, .agg #[.int .i64 (y185.1), .int .i64 (y185.2.1), .int .i64 (y185.2.2.1), .int .i64 (y185.2.2.2), .int .i64 (0)])]) (by kernel_rfl) el61 encIIIII_ok (by rfl) (by omega) (by omega) (by kernel_rfl) (by rfl) ?_
      intro b189 w190 G191 F192 hc193
      have D195 : Dj fp160 [b189] := Dj.of F171.low (low1 G191)
      have D196 : Dj fp165 [b189] := Dj.of F172.low (low1 G191)
      replace F169 := F169.chg hc193 Dj.nil
      replace F170 := F170.chg hc193 Dj.nil
      replace F171 := F171.chg hc193 Dj.nil
      replace F172 := F172.chg hc193 Dj.nil
      replace hB := hB.inS hc193 inNil
      replace G191 := Nat.le_trans hZ G191
      replace G191 := low1 G191
      replace hZ := Nat.le_trans hZ hc193.size
      obtain ⟨_, hk197, hm⟩ := bindE hm
      replace hk197 := apE hk197
      refine wS_append (enc := encIIIII) (l := (l157 : List (Int × Int × Int × Int × Int))) (l2 := (([(y185.1, y185.2.1, y185.2.2.1, y185.2.2.2, 0)] : List (Int × Int × Int × Int × Int)) : List (Int × Int × Int × Int × Int))) (d := 29) (t := 61) (T := 27) (A := A158) (A2 := (some ⟨b189, 0, none⟩)) (cap := cap159) (cap2 := 1) (by kernel_rfl) el61 encIIIII_ok F171 (F192.sl encIIIII_ok) (by rfl) hk197 ?_
      intro w198 fp199 A200 cap201 F202 hc203 hp204
      have G206 := low_ap G173 hZ hp204
      have D207 : Dj fp165 fp199 := Dj.ap D175 F172.low hp204
      have D208 : Dj [b189] fp199 := Dj.ap (D195).symm F192.low hp204
      replace F169 := F169.chg hc203 (Dj.of L0 G173)
      replace F170 := F170.chg hc203 (Dj.of L1 G173)
      replace F172 := F172.chg hc203 D175
      replace F192 := F192.chg hc203 (D195).symm
      replace hB := hB.inS hc203 (inLow G173)
      replace hZ := Nat.le_trans hZ hc203.size
      refine wS_pure 1 [(6, .slice A200 (l157 ++ (([(y185.1, y185.2.1, y185.2.2.1, y185.2.2.2, 0)] : List (Int × Int × Int × Int × Int)))).length cap201)] (by kernel_rfl) ?_
      refine wS_end (by rfl) ?_
      refine eX_then ?_
      refine cW_region ?_
      refine wS_pure 1 [(30, .slice A163 (l162).length cap164)] (by kernel_rfl) ?_
      refine wS_bs (enc := encI) ([0] : List (Int)) [.int .i64 (0)] (d := 31) (t := 38) (T := 2) (n := 1) (ps := [(0, .int .i64 (0))]) (by kernel_rfl) el38 encI_ok (by rfl) (by omega) (by omega) (by kernel_rfl) (by rfl) ?_
      intro b209 w210 G211 F212 hc213
      have D215 : Dj fp165 [b209] := Dj.of F172.low (low1 G211)
      have D216 : Dj [b189] [b209] := Dj.of F192.low (low1 G211)
      have D217 : Dj fp199 [b209] := Dj.of F202.low (low1 G211)
      replace F169 := F169.chg hc213 Dj.nil
      replace F170 := F170.chg hc213 Dj.nil
      replace F172 := F172.chg hc213 Dj.nil
      replace F192 := F192.chg hc213 Dj.nil
      replace F202 := F202.chg hc213 Dj.nil
      replace hB := hB.inS hc213 inNil
      replace G211 := Nat.le_trans hZ G211
      replace G211 := low1 G211
      replace hZ := Nat.le_trans hZ hc213.size
      obtain ⟨_, hk218, hm⟩ := bindE hm
      replace hk218 := apE hk218
      refine wS_append (enc := encI) (l := (l162 : List (Int))) (l2 := (([0] : List (Int)) : List (Int))) (d := 32) (t := 38) (T := 2) (A := A163) (A2 := (some ⟨b209, 0, none⟩)) (cap := cap164) (cap2 := 1) (by kernel_rfl) el38 encI_ok F172 (F212.sl encI_ok) (by rfl) hk218 ?_
      intro w219 fp220 A221 cap222 F223 hc224 hp225
      have G227 := low_ap G174 hZ hp225
      have D228 : Dj [b189] fp220 := Dj.ap (D196).symm F192.low hp225
      have D229 : Dj fp199 fp220 := Dj.ap (D207).symm F202.low hp225
      have D230 : Dj [b209] fp220 := Dj.ap (D215).symm F212.low hp225
      replace F169 := F169.chg hc224 (Dj.of L0 G174)
      replace F170 := F170.chg hc224 (Dj.of L1 G174)
      replace F192 := F192.chg hc224 (D196).symm
      replace F202 := F202.chg hc224 (D207).symm
      replace F212 := F212.chg hc224 (D215).symm
      replace hB := hB.inS hc224 (inLow G174)
      replace hZ := Nat.le_trans hZ hc224.size
      refine wS_pure 1 [(7, .slice A221 (l162 ++ (([0] : List (Int)))).length cap222)] (by kernel_rfl) ?_
      refine wS_end (by rfl) ?_
      refine eX_block ?_
      refine eX_then ?_
      refine cW_region ?_
      refine wS_pure 3 [(8, .int .i64 (wr (x167 + 1))), (20, .int .i64 (wr (x167 + 1))), (19, .int .i64 (x167))] (by kernel_rfl) ?_
      refine wS_end (by rfl) ?_
      have hq : (some (Ctl.next ((l157 ++ (([(y185.1, y185.2.1, y185.2.2.1, y185.2.2.2, 0)] : List (Int × Int × Int × Int × Int))), l162 ++ (([0] : List (Int))), wr (x167 + 1)))) : Option (Ctl ((List (Int × Int × Int × Int × Int)) × (List (Int)) × Int) ((List (Int × Int × Int × Int × Int)) × (List (Int))))) = some _ := hm
      replace hq := someE hq
      subst hq
      exact eX_next hx181 (fun hst => ⟨l157 ++ (([(y185.1, y185.2.1, y185.2.2.1, y185.2.2.2, 0)] : List (Int × Int × Int × Int × Int))), A200, cap201, fp199, l162 ++ (([0] : List (Int))), A221, cap222, fp220, wr (x167 + 1), rfl, Fr.of hst (by kernel_rfl), F169, F170, F202, F223, G206, G227, (D229).symm, hB, hZ⟩)
    · have hm := condF hb182 hm
      refine cW_exit ?_
      refine eX_then_exit ?_
      have hq : (some (Ctl.out ((l157, l162))) : Option (Ctl ((List (Int × Int × Int × Int × Int)) × (List (Int)) × Int) ((List (Int × Int × Int × Int × Int)) × (List (Int))))) = some _ := hm
      replace hq := someE hq
      subst hq
      refine eX_outX hx181 (fun hr231 => ?_)
      replace hr231 := hr231.symm
      subst hr231
      refine eX_block_hit ?_
      exact eX_J (fun hst => ⟨l157, A158, cap159, fp160, l162, A163, cap164, fp165, rfl, Fr.of hst (by kernel_rfl), F170, F171, F172, G173, G174, D175, hB, hZ⟩)
  · rintro a' w138 ⟨l139, A140, cap141, fp142, l144, A145, cap146, fp147, hJ, hF149, F150, F151, F152, G153, G154, D155, hB, hZ⟩
    subst hJ
    refine Fr.goX hF149 (by kernel_rfl) ?_
    refine eX_then ?_
    refine cW_seq ?_
    refine cW_seq ?_
    refine cW_region ?_
    refine wS_pure 1 [(9, .int .i64 (0))] (by kernel_rfl) ?_
    refine wS_end (by rfl) ?_
    refine eX_then ?_
    obtain ⟨r852, hr853, hm⟩ := bindE hm
    have hm854 := hm
    refine cW_cut (fun a' w' => ∃ l817 : List (Int × Int × Int × Int × Int), ∃ A818 : Option Addr, ∃ cap819 : Nat, ∃ fp820 : List Nat, ∃ l822 : List (Int), ∃ A823 : Option Addr, ∃ cap824 : Nat, ∃ fp825 : List Nat, (l817, l822) = r852 ∧ Fr 89 [(6, .slice A818 (l817).length cap819), (7, .slice A823 (l822).length cap824)] a' ∧ Ow 5 encIIIII 27 w' fp820 A818 cap819 l817 ∧ Ow 1 encI 2 w' fp825 A823 cap824 l822 ∧ (∀ x ∈ fp820, w0.heap.size ≤ x) ∧ (∀ x ∈ fp825, w0.heap.size ≤ x) ∧ Dj fp825 fp820 ∧ Chg [] w0 w' ∧ w0.heap.size ≤ w'.heap.size) ?_ ?_
    · refine cW_block ?_
      refine cW_loop _ (fun (s855 : (List (Int × Int × Int × Int × Int)) × (List (Int)) × Int) a' w' => ∃ l834 : List (Int × Int × Int × Int × Int), ∃ A835 : Option Addr, ∃ cap836 : Nat, ∃ fp837 : List Nat, ∃ l839 : List (Int), ∃ A840 : Option Addr, ∃ cap841 : Nat, ∃ fp842 : List Nat, ∃ x844 : Int, (l834, l839, x844) = s855 ∧ Fr 89 [(1, .slice A1 (l1).length cap1), (6, .slice A835 (l834).length cap836), (7, .slice A840 (l839).length cap841), (9, .int .i64 (x844))] a' ∧ SlR 1 encI w' fp1 A1 l1 ∧ Ow 5 encIIIII 27 w' fp837 A835 cap836 l834 ∧ Ow 1 encI 2 w' fp842 A840 cap841 l839 ∧ (∀ x ∈ fp837, w0.heap.size ≤ x) ∧ (∀ x ∈ fp842, w0.heap.size ≤ x) ∧ Dj fp842 fp837 ∧ Chg [] w0 w' ∧ w0.heap.size ≤ w'.heap.size) hr853 (fun hst => ⟨l139, A140, cap141, fp142, l144, A145, cap146, fp147, 0, rfl, Fr.of hst (by kernel_rfl), F150, F151, F152, G153, G154, D155, hB, hZ⟩) ?_
      rintro _ c856 a' w833 ⟨l834, A835, cap836, fp837, l839, A840, cap841, fp842, x844, rfl, hF845, F846, F847, F848, G849, G850, D851, hB, hZ⟩ hx857
      refine Fr.goOn hF845 (by kernel_rfl) ?_
      have hm := hx857
      unfold m_spec_l06Tree_s2 at hm
      refine cW_seq ?_
      refine cW_seq ?_
      refine cW_region ?_
      refine wS_pure 4 [(36, .bool (decide (x844 < (((l1).length : Int))))), (35, .int .i64 (((l1).length : Int))), (34, .slice A1 (l1).length cap1), (33, .int .i64 (x844))] (by kernel_rfl) ?_
      refine wS_end (by rfl) ?_
      refine eX_then ?_
      refine cW_cond (t := decide (x844 < (((l1).length : Int)))) (by kernel_rfl) (fun hb858 => ?_) (fun hb858 => ?_)
      · have hm := condT hb858 hm
        refine cW_skip ?_
        refine eX_then ?_
        refine cW_seq ?_
        refine cW_block ?_
        refine cW_seq ?_
        obtain ⟨s999, hs1000, hm⟩ := bindE hm
        refine cW_cut (fun a' w' => ∃ b982 : Nat, ∃ x983 : Int, ∃ x984 : Int, ∃ x985 : Int, ∃ x986 : Int, ∃ x987 : Int, ∃ x989 : Int, ∃ x990 : Int, (x983, x984, x985, x986, x987, x989, x990) = s999 ∧ Fr 89 [(1, .slice A1 (l1).length cap1), (6, .slice A835 (l834).length cap836), (7, .slice A840 (l839).length cap841), (9, .int .i64 (x844)), (10, .pointer (some ⟨b982, 0, none⟩)), (11, .int .i64 (x989)), (12, .int .i64 (x990))] a' ∧ SlR 1 encI w' fp1 A1 l1 ∧ Ow 5 encIIIII 27 w' fp837 A835 cap836 l834 ∧ Ow 1 encI 2 w' fp842 A840 cap841 l839 ∧ Cl w' b982 27 [.int .i64 (x983), .int .i64 (x984), .int .i64 (x985), .int .i64 (x986), .int .i64 (x987)] ∧ w0.heap.size ≤ b982 ∧ Dj fp837 [b982] ∧ Dj fp842 [b982] ∧ Chg [] w0 w' ∧ w0.heap.size ≤ w'.heap.size) ?_ ?_
        · have hm := hs1000
          refine cW_drawnTail [] 26 (by kernel_rfl) (by kernel_rfl) (fun w1001 hc1002 => ?_)
          replace F846 := F846.chg hc1002 Dj.nil
          replace F847 := F847.chg hc1002 Dj.nil
          replace F848 := F848.chg hc1002 Dj.nil
          replace hB := hB.inS hc1002 inNil
          replace hZ := Nat.le_trans hZ hc1002.size
          have hS := Chg.refl [] w1001
          have Z1003 := F846
          have Z1004 := F847
          have Z1005 := F848
          refine wH_take [0, 1, 2] [2, 1, 0] [(42, .int .i64 (x844)), (41, .slice A1 (l1).length cap1), (40, .slice A835 (l834).length cap836)] (by kernel_rfl) (qT (qT (qT (qB (qT (qL (qB (qT (qT qZ))))))))) (by kernel_rfl) ?_
          obtain ⟨x1006, hx1007, hm⟩ := bindE hm
          refine wH_idx (i := 3) (d := 43) (T := 37) (A := A1) (n := (l1).length) (cap := cap1) (kd := .i64) (m := x844) (by kernel_rfl) (qT (qT (qT (qB (qT (qL (qB (qT (qT qZ))))))))) (by kernel_rfl) (by kernel_rfl) sl37 (F846.is hx1007) ?_
          obtain ⟨A1008, cap1009, hc1011, F1010, K1012⟩ := SlR.row Z1003 hx1007
          refine wH_load1 (i := 4) (d := 44) (T := 38) (ad := (elA A1 1 (x844) 0)) (v := .slice A1008 (x1006).length cap1009) (by kernel_rfl) (qT (qT (qT (qB (qT (qL (qB (qT (qT qZ))))))))) (by kernel_rfl) (by kernel_rfl) vt38 (fun W hW => hW.keep hc1011) ?_
          obtain ⟨x1014, hx1015, hm⟩ := bindE hm
          refine wH_idx (i := 5) (d := 45) (T := 38) (A := A1008) (n := (x1006).length) (cap := cap1009) (kd := .i64) (m := 0) (by kernel_rfl) (qT (qT (qT (qB (qT (qL (qB (qT (qT qZ))))))))) (by kernel_rfl) (by kernel_rfl) sl38 (F1010.is hx1015) ?_
          refine wH_load1 (i := 6) (d := 46) (T := 2) (ad := (elA A1008 1 (0) 0)) (v := .int .i64 (x1014)) (by kernel_rfl) (qT (qT (qT (qB (qT (qL (qB (qT (qT qZ))))))))) (by kernel_rfl) (by kernel_rfl) vt2 (fun W hW => Sl.cell (F1010.chg hW Dj.nil) hx1015 0 (by rfl)) ?_
          obtain ⟨x1016, hx1017, hm⟩ := bindE hm
          refine wH_idx (i := 7) (d := 47) (T := 61) (A := A835) (n := (l834).length) (cap := cap836) (kd := .i64) (m := x1014) (by kernel_rfl) (qT (qT (qT (qB (qT (qL (qB (qT (qT qZ))))))))) (by kernel_rfl) (by kernel_rfl) sl61 ((F847.sl encIIIII_ok).is hx1017) ?_
          refine wH_loadA (i := 8) (d := 48) (T := 27) (ad := (elA A835 5 (x1014) 0)) (vs := [.int .i64 (x1016.1), .int .i64 (x1016.2.1), .int .i64 (x1016.2.2.1), .int .i64 (x1016.2.2.2.1), .int .i64 (x1016.2.2.2.2)]) (by kernel_rfl) (qT (qT (qT (qB (qT (qL (qB (qT (qT qZ))))))))) (by kernel_rfl) (by kernel_rfl) vt27 (fun W hW i u hu => Sl.cells_at ((Z1004.chg hW Dj.nil).sl encIIIII_ok) hx1017 0 hu (by rfl)) ?_
          refine wH_take [9, 10, 11] [11, 10, 9, 8, 7, 6, 5, 4, 3, 2, 1, 0] [(51, .int .i64 (x844)), (50, .slice A1 (l1).length cap1), (49, .slice A835 (l834).length cap836)] (by kernel_rfl) (qT (qT (qT (qB (qT (qL (qB (qT (qT qZ))))))))) (by kernel_rfl) ?_
          obtain ⟨x1018, hx1019, hm⟩ := bindE hm
          refine wH_idx (i := 12) (d := 52) (T := 37) (A := A1) (n := (l1).length) (cap := cap1) (kd := .i64) (m := x844) (by kernel_rfl) (qT (qT (qT (qB (qT (qL (qB (qT (qT qZ))))))))) (by kernel_rfl) (by kernel_rfl) sl37 (F846.is hx1019) ?_
          obtain ⟨A1020, cap1021, hc1023, F1022, K1024⟩ := SlR.row Z1003 hx1019
          refine wH_load1 (i := 13) (d := 53) (T := 38) (ad := (elA A1 1 (x844) 0)) (v := .slice A1020 (x1018).length cap1021) (by kernel_rfl) (qT (qT (qT (qB (qT (qL (qB (qT (qT qZ))))))))) (by kernel_rfl) (by kernel_rfl) vt38 (fun W hW => hW.keep hc1023) ?_
          obtain ⟨x1026, hx1027, hm⟩ := bindE hm
          refine wH_idx (i := 14) (d := 54) (T := 38) (A := A1020) (n := (x1018).length) (cap := cap1021) (kd := .i64) (m := 1) (by kernel_rfl) (qT (qT (qT (qB (qT (qL (qB (qT (qT qZ))))))))) (by kernel_rfl) (by kernel_rfl) sl38 (F1022.is hx1027) ?_
          refine wH_load1 (i := 15) (d := 55) (T := 2) (ad := (elA A1020 1 (1) 0)) (v := .int .i64 (x1026)) (by kernel_rfl) (qT (qT (qT (qB (qT (qL (qB (qT (qT qZ))))))))) (by kernel_rfl) (by kernel_rfl) vt2 (fun W hW => Sl.cell (F1022.chg hW Dj.nil) hx1027 0 (by rfl)) ?_
          obtain ⟨x1028, hx1029, hm⟩ := bindE hm
          refine wH_idx (i := 16) (d := 56) (T := 61) (A := A835) (n := (l834).length) (cap := cap836) (kd := .i64) (m := x1026) (by kernel_rfl) (qT (qT (qT (qB (qT (qL (qB (qT (qT qZ))))))))) (by kernel_rfl) (by kernel_rfl) sl61 ((F847.sl encIIIII_ok).is hx1029) ?_
          refine wH_loadA (i := 17) (d := 57) (T := 27) (ad := (elA A835 5 (x1026) 0)) (vs := [.int .i64 (x1028.1), .int .i64 (x1028.2.1), .int .i64 (x1028.2.2.1), .int .i64 (x1028.2.2.2.1), .int .i64 (x1028.2.2.2.2)]) (by kernel_rfl) (qT (qT (qT (qB (qT (qL (qB (qT (qT qZ))))))))) (by kernel_rfl) (by kernel_rfl) vt27 (fun W hW i u hu => Sl.cells_at ((Z1004.chg hW Dj.nil).sl encIIIII_ok) hx1029 0 hu (by rfl)) ?_
          refine wH_all [18, 23] (by rfl) (by kernel_rfl) (by simp) ⟨⟨by kernel_rfl, ?_⟩, ⟨by kernel_rfl, ?_⟩, trivial⟩
          · skip
            obtain ⟨y1030, hy1031, hm⟩ := bindE hm
            refine wS_calls (d := 58) (f := 144) (vs := [.agg #[.int .i64 (x1016.1), .int .i64 (x1016.2.1), .int .i64 (x1016.2.2.1), .int .i64 (x1016.2.2.2.1), .int .i64 (x1016.2.2.2.2)], .agg #[.int .i64 (x1028.1), .int .i64 (x1028.2.1), .int .i64 (x1028.2.2.1), .int .i64 (x1028.2.2.2.1), .int .i64 (x1028.2.2.2.2)]]) (by kernel_rfl) ent144 (c_spec_l06Pair hy1031) ?_
            rintro _ w1032 ⟨rfl, hc1033⟩
            replace F846 := F846.chg hc1033 Dj.nil
            replace F847 := F847.chg hc1033 Dj.nil
            replace F848 := F848.chg hc1033 Dj.nil
            replace F1010 := F1010.chg hc1033 Dj.nil
            replace F1022 := F1022.chg hc1033 Dj.nil
            replace hB := hB.inS hc1033 inNil
            have hSz := hS
            replace hS := hS.inS hc1033 inNil
            replace hZ := Nat.le_trans hZ hc1033.size
            refine ⟨.tuple #[.agg #[.int .i64 (y1030.1.1), .int .i64 (y1030.1.2.1), .int .i64 (y1030.1.2.2.1), .int .i64 (y1030.1.2.2.2.1), .int .i64 (y1030.1.2.2.2.2)], .int .i64 (y1030.2.1), .int .i64 (y1030.2.2)], rfl, ?_⟩
            refine wS_end (by kernel_rfl) ?_
            refine eX_KH hS ?_
            refine wH_take [19, 20, 21, 22] [22, 21, 20, 19, 18, 17, 16, 15, 14, 13, 12, 11, 10, 9, 8, 7, 6, 5, 4, 3, 2, 1, 0] [(61, .int .i64 (y1030.2.2)), (60, .int .i64 (y1030.2.1)), (59, .agg #[.int .i64 (y1030.1.1), .int .i64 (y1030.1.2.1), .int .i64 (y1030.1.2.2.1), .int .i64 (y1030.1.2.2.2.1), .int .i64 (y1030.1.2.2.2.2)]), (39, .tuple #[.agg #[.int .i64 (y1030.1.1), .int .i64 (y1030.1.2.1), .int .i64 (y1030.1.2.2.1), .int .i64 (y1030.1.2.2.2.1), .int .i64 (y1030.1.2.2.2.2)], .int .i64 (y1030.2.1), .int .i64 (y1030.2.2)])] (by kernel_rfl) (qT (qT (qT (qB (qT (qL (qB (qT (qT qZ))))))))) (by kernel_rfl) ?_
            refine wH_all [23] (by rfl) (by kernel_rfl) (by simp) ⟨⟨by kernel_rfl, ?_⟩, trivial⟩
            refine wS_alloc (d := 10) (T := 27) (z := .agg #[.int .i64 (0), .int .i64 (0), .int .i64 (0), .int .i64 (0), .int .i64 (0)]) (by kernel_rfl) (by kernel_rfl) ?_
            intro b1034 w1035 G1036 F1037 hc1038
            replace F1037 : Cl w1035 b1034 27 [.int .i64 (0), .int .i64 (0), .int .i64 (0), .int .i64 (0), .int .i64 (0)] := F1037
            have D1040 : Dj fp837 [b1034] := Dj.of F847.low (low1 G1036)
            have D1041 : Dj fp842 [b1034] := Dj.of F848.low (low1 G1036)
            replace F846 := F846.chg hc1038 Dj.nil
            replace F847 := F847.chg hc1038 Dj.nil
            replace F848 := F848.chg hc1038 Dj.nil
            replace F1010 := F1010.chg hc1038 Dj.nil
            replace F1022 := F1022.chg hc1038 Dj.nil
            replace hB := hB.inS hc1038 inNil
            have hSz := hS
            replace hS := hS.inS hc1038 inNil
            have Gz1042 := low1 (Nat.le_trans hSz.size G1036)
            replace G1036 := Nat.le_trans hZ G1036
            replace hZ := Nat.le_trans hZ hc1038.size
            refine wS_end (by kernel_rfl) ?_
            refine eX_KH hS ?_
            refine wH_all [24] (by rfl) (by kernel_rfl) (by simp) ⟨⟨by kernel_rfl, ?_⟩, trivial⟩
            refine wS_store (T := 27) (g := b1034) (o := 0) (ad := ⟨b1034, 0, none⟩) (v := .agg #[.int .i64 (y1030.1.1), .int .i64 (y1030.1.2.1), .int .i64 (y1030.1.2.2.1), .int .i64 (y1030.1.2.2.2.1), .int .i64 (y1030.1.2.2.2.2)]) (vs := [.int .i64 (y1030.1.1), .int .i64 (y1030.1.2.1), .int .i64 (y1030.1.2.2.1), .int .i64 (y1030.1.2.2.2.1), .int .i64 (y1030.1.2.2.2.2)]) (by kernel_rfl) (by rfl) sz27 (by rfl) (by rfl) F1037 (by simp only [List.length_cons, List.length_nil]; omega) ?_
            intro w1043 F1044 hc1045
            replace F846 := F846.chg hc1045 (Dj.of L1 (low1 G1036))
            replace F847 := F847.chg hc1045 D1040
            replace F848 := F848.chg hc1045 D1041
            replace F1010 := F1010.chg hc1045 (Dj.of L1 (low1 G1036))
            replace F1022 := F1022.chg hc1045 (Dj.of L1 (low1 G1036))
            replace hB := hB.inS hc1045 (inLow (low1 G1036))
            have hSz := hS
            replace hS := hS.inS hc1045 (inLow Gz1042)
            replace hZ := Nat.le_trans hZ hc1045.size
            replace F1044 : Cl w1043 b1034 27 [.int .i64 (y1030.1.1), .int .i64 (y1030.1.2.1), .int .i64 (y1030.1.2.2.1), .int .i64 (y1030.1.2.2.2.1), .int .i64 (y1030.1.2.2.2.2)] := F1044
            clear F1037
            refine wS_end (by kernel_rfl) ?_
            refine eX_KH hS ?_
            refine wH_take [25] [25, 24, 23, 22, 21, 20, 19, 18, 17, 16, 15, 14, 13, 12, 11, 10, 9, 8, 7, 6, 5, 4, 3, 2, 1, 0] [(11, .int .i64 (y1030.2.1))] (by kernel_rfl) (qT (qT (qT (qB (qT (qL (qB (qT (qT qZ))))))))) (by kernel_rfl) ?_
            refine wH_done (by kernel_rfl) ?_
            refine eX_tail ?_
            refine wS_pure 1 [(12, .int .i64 (y1030.2.2))] (by kernel_rfl) ?_
            refine wS_end (by rfl) ?_
            have hq : (some ((y1030.1.1, y1030.1.2.1, y1030.1.2.2.1, y1030.1.2.2.2.1, y1030.1.2.2.2.2, y1030.2.1, y1030.2.2)) : Option (Int × Int × Int × Int × Int × Int × Int)) = some _ := hm
            replace hq := someE hq
            subst hq
            exact eX_J (fun hst => ⟨b1034, y1030.1.1, y1030.1.2.1, y1030.1.2.2.1, y1030.1.2.2.2.1, y1030.1.2.2.2.2, y1030.2.1, y1030.2.2, rfl, Fr.of hst (by kernel_rfl), F846, F847, F848, F1044, G1036, D1040, D1041, hB, hZ⟩)
          · skip
            refine wS_alloc (d := 10) (T := 27) (z := .agg #[.int .i64 (0), .int .i64 (0), .int .i64 (0), .int .i64 (0), .int .i64 (0)]) (by kernel_rfl) (by kernel_rfl) ?_
            intro b1046 w1047 G1048 F1049 hc1050
            replace F1049 : Cl w1047 b1046 27 [.int .i64 (0), .int .i64 (0), .int .i64 (0), .int .i64 (0), .int .i64 (0)] := F1049
            have D1052 : Dj fp837 [b1046] := Dj.of F847.low (low1 G1048)
            have D1053 : Dj fp842 [b1046] := Dj.of F848.low (low1 G1048)
            replace F846 := F846.chg hc1050 Dj.nil
            replace F847 := F847.chg hc1050 Dj.nil
            replace F848 := F848.chg hc1050 Dj.nil
            replace F1010 := F1010.chg hc1050 Dj.nil
            replace F1022 := F1022.chg hc1050 Dj.nil
            replace hB := hB.inS hc1050 inNil
            have hSz := hS
            replace hS := hS.inS hc1050 inNil
            have Gz1054 := low1 (Nat.le_trans hSz.size G1048)
            replace G1048 := Nat.le_trans hZ G1048
            replace hZ := Nat.le_trans hZ hc1050.size
            refine wS_end (by kernel_rfl) ?_
            refine eX_KH hS ?_
            refine wH_all [18] (by rfl) (by kernel_rfl) (by simp) ⟨⟨by kernel_rfl, ?_⟩, trivial⟩
            obtain ⟨y1055, hy1056, hm⟩ := bindE hm
            refine wS_calls (d := 58) (f := 144) (vs := [.agg #[.int .i64 (x1016.1), .int .i64 (x1016.2.1), .int .i64 (x1016.2.2.1), .int .i64 (x1016.2.2.2.1), .int .i64 (x1016.2.2.2.2)], .agg #[.int .i64 (x1028.1), .int .i64 (x1028.2.1), .int .i64 (x1028.2.2.1), .int .i64 (x1028.2.2.2.1), .int .i64 (x1028.2.2.2.2)]]) (by kernel_rfl) ent144 (c_spec_l06Pair hy1056) ?_
            rintro _ w1057 ⟨rfl, hc1058⟩
            replace F846 := F846.chg hc1058 Dj.nil
            replace F847 := F847.chg hc1058 Dj.nil
            replace F848 := F848.chg hc1058 Dj.nil
            replace F1010 := F1010.chg hc1058 Dj.nil
            replace F1022 := F1022.chg hc1058 Dj.nil
            replace F1049 := F1049.chg hc1058 notNil
            replace hB := hB.inS hc1058 inNil
            have hSz := hS
            replace hS := hS.inS hc1058 inNil
            replace hZ := Nat.le_trans hZ hc1058.size
            refine ⟨.tuple #[.agg #[.int .i64 (y1055.1.1), .int .i64 (y1055.1.2.1), .int .i64 (y1055.1.2.2.1), .int .i64 (y1055.1.2.2.2.1), .int .i64 (y1055.1.2.2.2.2)], .int .i64 (y1055.2.1), .int .i64 (y1055.2.2)], rfl, ?_⟩
            refine wS_end (by kernel_rfl) ?_
            refine eX_KH hS ?_
            refine wH_take [19, 20, 21, 22] [22, 21, 20, 19, 18, 23, 17, 16, 15, 14, 13, 12, 11, 10, 9, 8, 7, 6, 5, 4, 3, 2, 1, 0] [(61, .int .i64 (y1055.2.2)), (60, .int .i64 (y1055.2.1)), (59, .agg #[.int .i64 (y1055.1.1), .int .i64 (y1055.1.2.1), .int .i64 (y1055.1.2.2.1), .int .i64 (y1055.1.2.2.2.1), .int .i64 (y1055.1.2.2.2.2)]), (39, .tuple #[.agg #[.int .i64 (y1055.1.1), .int .i64 (y1055.1.2.1), .int .i64 (y1055.1.2.2.1), .int .i64 (y1055.1.2.2.2.1), .int .i64 (y1055.1.2.2.2.2)], .int .i64 (y1055.2.1), .int .i64 (y1055.2.2)])] (by kernel_rfl) (qT (qT (qT (qB (qT (qL (qB (qT (qT qZ))))))))) (by kernel_rfl) ?_
            refine wH_all [24] (by rfl) (by kernel_rfl) (by simp) ⟨⟨by kernel_rfl, ?_⟩, trivial⟩
            refine wS_store (T := 27) (g := b1046) (o := 0) (ad := ⟨b1046, 0, none⟩) (v := .agg #[.int .i64 (y1055.1.1), .int .i64 (y1055.1.2.1), .int .i64 (y1055.1.2.2.1), .int .i64 (y1055.1.2.2.2.1), .int .i64 (y1055.1.2.2.2.2)]) (vs := [.int .i64 (y1055.1.1), .int .i64 (y1055.1.2.1), .int .i64 (y1055.1.2.2.1), .int .i64 (y1055.1.2.2.2.1), .int .i64 (y1055.1.2.2.2.2)]) (by kernel_rfl) (by rfl) sz27 (by rfl) (by rfl) F1049 (by simp only [List.length_cons, List.length_nil]; omega) ?_
            intro w1059 F1060 hc1061
            replace F846 := F846.chg hc1061 (Dj.of L1 (low1 G1048))
            replace F847 := F847.chg hc1061 D1052
            replace F848 := F848.chg hc1061 D1053
            replace F1010 := F1010.chg hc1061 (Dj.of L1 (low1 G1048))
            replace F1022 := F1022.chg hc1061 (Dj.of L1 (low1 G1048))
            replace hB := hB.inS hc1061 (inLow (low1 G1048))
            have hSz := hS
            replace hS := hS.inS hc1061 (inLow Gz1054)
            replace hZ := Nat.le_trans hZ hc1061.size
            replace F1060 : Cl w1059 b1046 27 [.int .i64 (y1055.1.1), .int .i64 (y1055.1.2.1), .int .i64 (y1055.1.2.2.1), .int .i64 (y1055.1.2.2.2.1), .int .i64 (y1055.1.2.2.2.2)] := F1060
            clear F1049
            refine wS_end (by kernel_rfl) ?_
            refine eX_KH hS ?_
            refine wH_take [25] [25, 24, 22, 21, 20, 19, 18, 23, 17, 16, 15, 14, 13, 12, 11, 10, 9, 8, 7, 6, 5, 4, 3, 2, 1, 0] [(11, .int .i64 (y1055.2.1))] (by kernel_rfl) (qT (qT (qT (qB (qT (qL (qB (qT (qT qZ))))))))) (by kernel_rfl) ?_
            refine wH_done (by kernel_rfl) ?_
            refine eX_tail ?_
            refine wS_pure 1 [(12, .int .i64 (y1055.2.2))] (by kernel_rfl) ?_
            refine wS_end (by rfl) ?_
            have hq : (some ((y1055.1.1, y1055.1.2.1, y1055.1.2.2.1, y1055.1.2.2.2.1, y1055.1.2.2.2.2, y1055.2.1, y1055.2.2)) : Option (Int × Int × Int × Int × Int × Int × Int)) = some _ := hm
            replace hq := someE hq
            subst hq
            exact eX_J (fun hst => ⟨b1046, y1055.1.1, y1055.1.2.1, y1055.1.2.2.1, y1055.1.2.2.2.1, y1055.1.2.2.2.2, y1055.2.1, y1055.2.2, rfl, Fr.of hst (by kernel_rfl), F846, F847, F848, F1060, G1048, D1052, D1053, hB, hZ⟩)
        · rintro a' w981 ⟨b982, x983, x984, x985, x986, x987, x989, x990, hJ, hF991, F992, F993, F994, F995, G996, D997, D998, hB, hZ⟩
          subst hJ
          refine Fr.goX hF991 (by kernel_rfl) ?_
          refine eX_then ?_
          refine cW_seq ?_
          refine cW_region ?_
          refine wS_pure 3 [(64, .int .i64 (x844)), (63, .slice A1 (l1).length cap1), (62, .slice A840 (l839).length cap841)] (by kernel_rfl) ?_
          obtain ⟨x1062, hx1063, hm⟩ := bindE hm
          refine wS_idx (d := 65) (T := 37) (A := A1) (n := (l1).length) (cap := cap1) (kd := .i64) (m := x844) (by kernel_rfl) sl37 (F992.is hx1063) ?_
          obtain ⟨A1064, cap1065, hc1067, F1066, K1068⟩ := SlR.row F992 hx1063
          refine wS_load1 (d := 66) (T := 38) (ad := (elA A1 1 (x844) 0)) (v := .slice A1064 (x1062).length cap1065) (by kernel_rfl) vt38 hc1067 ?_
          obtain ⟨x1070, hx1071, hm⟩ := bindE hm
          refine wS_idx (d := 67) (T := 38) (A := A1064) (n := (x1062).length) (cap := cap1065) (kd := .i64) (m := 0) (by kernel_rfl) sl38 (F1066.is hx1071) ?_
          refine wS_load1 (d := 68) (T := 2) (ad := (elA A1064 1 (0) 0)) (v := .int .i64 (x1070)) (by kernel_rfl) vt2 (Sl.cell F1066 hx1071 0 (by rfl)) ?_
          refine wS_pure 1 [(69, .int .i64 (x989))] (by kernel_rfl) ?_
          obtain ⟨x1072, hx1073, hm⟩ := bindE hm
          refine wS_idx (d := 70) (T := 38) (A := A840) (n := (l839).length) (cap := cap841) (kd := .i64) (m := x1070) (by kernel_rfl) sl38 ((F994.sl encI_ok).is hx1073) ?_
          refine wS_storeEl (x := x1072) x989 (T := 2) (U := 2) (cap := cap841) (j := 0) (A := A840) (v := .int .i64 (x989)) (vs := [.int .i64 (x989)]) (m := x1070) (by kernel_rfl) (by rfl) sz2 (by rfl) encI_ok F994 hx1073 (by simp only [List.length_cons, List.length_nil]; omega) (by rfl) ?_
          intro w1074 F1075 hc1076
          replace F992 := F992.chg hc1076 (Dj.of L1 G850)
          replace F993 := F993.chg hc1076 (D851).symm
          replace F995 := F995.chg hc1076 (dj1 (D998).symm)
          replace F1066 := F1066.chg hc1076 (Dj.of L1 G850)
          replace hB := hB.inS hc1076 (inLow G850)
          replace hZ := Nat.le_trans hZ hc1076.size
          clear F994
          rewrite [show (l839).length = (l839.set (Int.toNat x1070) x989).length from (List.length_set ..).symm]
          refine wS_end (by rfl) ?_
          refine eX_then ?_
          refine cW_seq ?_
          refine cW_region ?_
          refine wS_pure 3 [(73, .int .i64 (x844)), (72, .slice A1 (l1).length cap1), (71, .slice A840 (l839.set (Int.toNat x1070) x989).length cap841)] (by kernel_rfl) ?_
          obtain ⟨x1077, hx1078, hm⟩ := bindE hm
          refine wS_idx (d := 74) (T := 37) (A := A1) (n := (l1).length) (cap := cap1) (kd := .i64) (m := x844) (by kernel_rfl) sl37 (F992.is hx1078) ?_
          obtain ⟨A1079, cap1080, hc1082, F1081, K1083⟩ := SlR.row F992 hx1078
          refine wS_load1 (d := 75) (T := 38) (ad := (elA A1 1 (x844) 0)) (v := .slice A1079 (x1077).length cap1080) (by kernel_rfl) vt38 hc1082 ?_
          obtain ⟨x1085, hx1086, hm⟩ := bindE hm
          refine wS_idx (d := 76) (T := 38) (A := A1079) (n := (x1077).length) (cap := cap1080) (kd := .i64) (m := 1) (by kernel_rfl) sl38 (F1081.is hx1086) ?_
          refine wS_load1 (d := 77) (T := 2) (ad := (elA A1079 1 (1) 0)) (v := .int .i64 (x1085)) (by kernel_rfl) vt2 (Sl.cell F1081 hx1086 0 (by rfl)) ?_
          refine wS_pure 1 [(78, .int .i64 (x990))] (by kernel_rfl) ?_
          obtain ⟨x1087, hx1088, hm⟩ := bindE hm
          refine wS_idx (d := 79) (T := 38) (A := A840) (n := (l839.set (Int.toNat x1070) x989).length) (cap := cap841) (kd := .i64) (m := x1085) (by kernel_rfl) sl38 ((F1075.sl encI_ok).is hx1088) ?_
          refine wS_storeEl (x := x1087) x990 (T := 2) (U := 2) (cap := cap841) (j := 0) (A := A840) (v := .int .i64 (x990)) (vs := [.int .i64 (x990)]) (m := x1085) (by kernel_rfl) (by rfl) sz2 (by rfl) encI_ok F1075 hx1088 (by simp only [List.length_cons, List.length_nil]; omega) (by rfl) ?_
          intro w1089 F1090 hc1091
          replace F992 := F992.chg hc1091 (Dj.of L1 G850)
          replace F993 := F993.chg hc1091 (D851).symm
          replace F995 := F995.chg hc1091 (dj1 (D998).symm)
          replace F1066 := F1066.chg hc1091 (Dj.of L1 G850)
          replace F1081 := F1081.chg hc1091 (Dj.of L1 G850)
          replace hB := hB.inS hc1091 (inLow G850)
          replace hZ := Nat.le_trans hZ hc1091.size
          clear F1075
          rewrite [show (l839.set (Int.toNat x1070) x989).length = ((l839.set (Int.toNat x1070) x989).set (Int.toNat x1085) x990).length from (List.length_set ..).symm]
          refine wS_end (by rfl) ?_
          refine eX_then ?_
          refine cW_prune [(1, .slice A1 (l1).length cap1), (6, .slice A835 (l834).length cap836), (7, .slice A840 ((l839.set (Int.toNat x1070) x989).set (Int.toNat x1085) x990).length cap841), (9, .int .i64 (x844)), (10, .pointer (some ⟨b982, 0, none⟩))] (by kernel_rfl) (by kernel_rfl) (fun a1092 => ?_)
          refine cW_seq ?_
          refine cW_region ?_
          refine wS_pure 1 [(80, .slice A835 (l834).length cap836)] (by kernel_rfl) ?_
          refine wS_loadA (d := 81) (T := 27) (ad := ⟨b982, 0, none⟩) (vs := [.int .i64 (x983), .int .i64 (x984), .int .i64 (x985), .int .i64 (x986), .int .i64 (x987)]) (by kernel_rfl) vt27 (fun i u hu => box_cells F995 0 hu (by rfl)) ?_
          refine wS_bs (enc := encIIIII) ([(x983, x984, x985, x986, x987)] : List (Int × Int × Int × Int × Int)) [.int .i64 (x983), .int .i64 (x984), .int .i64 (x985), .int .i64 (x986), .int .i64 (x987)] (d := 82) (t := 61) (T := 27) (n := 1) (ps := [(0, .agg #[.int .i64 (x983), .int .i64 (x984), .int .i64 (x985), .int .i64 (x986), .int .i64 (x987)])]) (by kernel_rfl) el61 encIIIII_ok (by rfl) (by omega) (by omega) (by kernel_rfl) (by rfl) ?_
          intro b1093 w1094 G1095 F1096 hc1097
          have D1099 : Dj fp837 [b1093] := Dj.of F993.low (low1 G1095)
          have D1100 : Dj fp842 [b1093] := Dj.of F1090.low (low1 G1095)
          have D1101 : Dj [b982] [b1093] := Dj.of (lt1 F995.lt) (low1 G1095)
          replace F992 := F992.chg hc1097 Dj.nil
          replace F993 := F993.chg hc1097 Dj.nil
          replace F1090 := F1090.chg hc1097 Dj.nil
          replace F995 := F995.chg hc1097 notNil
          replace F1066 := F1066.chg hc1097 Dj.nil
          replace F1081 := F1081.chg hc1097 Dj.nil
          replace hB := hB.inS hc1097 inNil
          replace G1095 := Nat.le_trans hZ G1095
          replace G1095 := low1 G1095
          replace hZ := Nat.le_trans hZ hc1097.size
          obtain ⟨_, hk1102, hm⟩ := bindE hm
          replace hk1102 := apE hk1102
          refine wS_append (enc := encIIIII) (l := (l834 : List (Int × Int × Int × Int × Int))) (l2 := (([(x983, x984, x985, x986, x987)] : List (Int × Int × Int × Int × Int)) : List (Int × Int × Int × Int × Int))) (d := 83) (t := 61) (T := 27) (A := A835) (A2 := (some ⟨b1093, 0, none⟩)) (cap := cap836) (cap2 := 1) (by kernel_rfl) el61 encIIIII_ok F993 (F1096.sl encIIIII_ok) (by rfl) hk1102 ?_
          intro w1103 fp1104 A1105 cap1106 F1107 hc1108 hp1109
          have G1111 := low_ap G849 hZ hp1109
          have D1112 : Dj fp842 fp1104 := Dj.ap D851 F1090.low hp1109
          have D1113 : Dj [b982] fp1104 := Dj.ap (D997).symm (lt1 F995.lt) hp1109
          have D1114 : Dj [b1093] fp1104 := Dj.ap (D1099).symm F1096.low hp1109
          replace F992 := F992.chg hc1108 (Dj.of L1 G849)
          replace F1090 := F1090.chg hc1108 D851
          replace F995 := F995.chg hc1108 (dj1 (D997).symm)
          replace F1066 := F1066.chg hc1108 (Dj.of L1 G849)
          replace F1081 := F1081.chg hc1108 (Dj.of L1 G849)
          replace F1096 := F1096.chg hc1108 (D1099).symm
          replace hB := hB.inS hc1108 (inLow G849)
          replace hZ := Nat.le_trans hZ hc1108.size
          refine wS_pure 1 [(6, .slice A1105 (l834 ++ (([(x983, x984, x985, x986, x987)] : List (Int × Int × Int × Int × Int)))).length cap1106)] (by kernel_rfl) ?_
          refine wS_end (by rfl) ?_
          refine eX_then ?_
          refine cW_region ?_
          refine wS_pure 1 [(84, .slice A840 ((l839.set (Int.toNat x1070) x989).set (Int.toNat x1085) x990).length cap841)] (by kernel_rfl) ?_
          refine wS_bs (enc := encI) ([0] : List (Int)) [.int .i64 (0)] (d := 85) (t := 38) (T := 2) (n := 1) (ps := [(0, .int .i64 (0))]) (by kernel_rfl) el38 encI_ok (by rfl) (by omega) (by omega) (by kernel_rfl) (by rfl) ?_
          intro b1115 w1116 G1117 F1118 hc1119
          have D1121 : Dj fp842 [b1115] := Dj.of F1090.low (low1 G1117)
          have D1122 : Dj [b982] [b1115] := Dj.of (lt1 F995.lt) (low1 G1117)
          have D1123 : Dj [b1093] [b1115] := Dj.of F1096.low (low1 G1117)
          have D1124 : Dj fp1104 [b1115] := Dj.of F1107.low (low1 G1117)
          replace F992 := F992.chg hc1119 Dj.nil
          replace F1090 := F1090.chg hc1119 Dj.nil
          replace F995 := F995.chg hc1119 notNil
          replace F1066 := F1066.chg hc1119 Dj.nil
          replace F1081 := F1081.chg hc1119 Dj.nil
          replace F1096 := F1096.chg hc1119 Dj.nil
          replace F1107 := F1107.chg hc1119 Dj.nil
          replace hB := hB.inS hc1119 inNil
          replace G1117 := Nat.le_trans hZ G1117
          replace G1117 := low1 G1117
          replace hZ := Nat.le_trans hZ hc1119.size
          obtain ⟨_, hk1125, hm⟩ := bindE hm
          replace hk1125 := apE hk1125
          refine wS_append (enc := encI) (l := ((l839.set (Int.toNat x1070) x989).set (Int.toNat x1085) x990 : List (Int))) (l2 := (([0] : List (Int)) : List (Int))) (d := 86) (t := 38) (T := 2) (A := A840) (A2 := (some ⟨b1115, 0, none⟩)) (cap := cap841) (cap2 := 1) (by kernel_rfl) el38 encI_ok F1090 (F1118.sl encI_ok) (by rfl) hk1125 ?_
          intro w1126 fp1127 A1128 cap1129 F1130 hc1131 hp1132
          have G1134 := low_ap G850 hZ hp1132
          have D1135 : Dj [b982] fp1127 := Dj.ap (D998).symm (lt1 F995.lt) hp1132
          have D1136 : Dj [b1093] fp1127 := Dj.ap (D1100).symm F1096.low hp1132
          have D1137 : Dj fp1104 fp1127 := Dj.ap (D1112).symm F1107.low hp1132
          have D1138 : Dj [b1115] fp1127 := Dj.ap (D1121).symm F1118.low hp1132
          replace F992 := F992.chg hc1131 (Dj.of L1 G850)
          replace F995 := F995.chg hc1131 (dj1 (D998).symm)
          replace F1066 := F1066.chg hc1131 (Dj.of L1 G850)
          replace F1081 := F1081.chg hc1131 (Dj.of L1 G850)
          replace F1096 := F1096.chg hc1131 (D1100).symm
          replace F1107 := F1107.chg hc1131 (D1112).symm
          replace F1118 := F1118.chg hc1131 (D1121).symm
          replace hB := hB.inS hc1131 (inLow G850)
          replace hZ := Nat.le_trans hZ hc1131.size
          refine wS_pure 1 [(7, .slice A1128 (((l839.set (Int.toNat x1070) x989).set (Int.toNat x1085) x990) ++ (([0] : List (Int)))).length cap1129)] (by kernel_rfl) ?_
          refine wS_end (by rfl) ?_
          refine eX_block ?_
          refine eX_then ?_
          refine cW_region ?_
          refine wS_pure 3 [(9, .int .i64 (wr (x844 + 1))), (38, .int .i64 (wr (x844 + 1))), (37, .int .i64 (x844))] (by kernel_rfl) ?_
          refine wS_end (by rfl) ?_
          have hq : (some (Ctl.next ((l834 ++ (([(x983, x984, x985, x986, x987)] : List (Int × Int × Int × Int × Int))), ((l839.set (Int.toNat x1070) x989).set (Int.toNat x1085) x990) ++ (([0] : List (Int))), wr (x844 + 1)))) : Option (Ctl ((List (Int × Int × Int × Int × Int)) × (List (Int)) × Int) ((List (Int × Int × Int × Int × Int)) × (List (Int))))) = some _ := hm
          replace hq := someE hq
          subst hq
          exact eX_next hx857 (fun hst => ⟨l834 ++ (([(x983, x984, x985, x986, x987)] : List (Int × Int × Int × Int × Int))), A1105, cap1106, fp1104, ((l839.set (Int.toNat x1070) x989).set (Int.toNat x1085) x990) ++ (([0] : List (Int))), A1128, cap1129, fp1127, wr (x844 + 1), rfl, Fr.of hst (by kernel_rfl), F992, F1107, F1130, G1111, G1134, (D1137).symm, hB, hZ⟩)
      · have hm := condF hb858 hm
        refine cW_exit ?_
        refine eX_then_exit ?_
        have hq : (some (Ctl.out ((l834, l839))) : Option (Ctl ((List (Int × Int × Int × Int × Int)) × (List (Int)) × Int) ((List (Int × Int × Int × Int × Int)) × (List (Int))))) = some _ := hm
        replace hq := someE hq
        subst hq
        refine eX_outX hx857 (fun hr1139 => ?_)
        replace hr1139 := hr1139.symm
        subst hr1139
        refine eX_block_hit ?_
        exact eX_J (fun hst => ⟨l834, A835, cap836, fp837, l839, A840, cap841, fp842, rfl, Fr.of hst (by kernel_rfl), F847, F848, G849, G850, D851, hB, hZ⟩)
    · rintro a' w816 ⟨l817, A818, cap819, fp820, l822, A823, cap824, fp825, hJ, hF827, F828, F829, G830, G831, D832, hB, hZ⟩
      subst hJ
      refine Fr.goX hF827 (by kernel_rfl) ?_
      refine eX_then ?_
      refine cW_seq ?_
      refine cW_region ?_
      refine wS_pure 4 [(5, .slice A823 (l822).length cap824), (4, .slice A818 (l817).length cap819), (88, .slice A823 (l822).length cap824), (87, .slice A818 (l817).length cap819)] (by kernel_rfl) ?_
      refine wS_end (by rfl) ?_
      refine eX_then ?_
      refine cW_ret ?_
      have hq : (some ((l817, l822)) : Option ((List (Int × Int × Int × Int × Int)) × (List (Int)))) = some _ := hm
      replace hq := someE hq
      subst hq
      refine eX_ret (vs := [.slice A818 (l817).length cap819, .slice A823 (l822).length cap824]) [.tmp 4, .tmp 5] (by rfl) ⟨by (show lkE _ _ _ = _); kernel_rfl, ⟨by (show lkE _ _ _ = _); kernel_rfl, trivial⟩⟩ ?_
      exact ⟨A818, cap819, fp820, A823, cap824, fp825, rfl, F828, G830, F829, G831, (D832).symm, hB⟩

set_option maxRecDepth 100000 in
/-- spec.l00Has -/
theorem c_spec_l00Has {w0 : World} {l0 : List (Int)} {A0 : Option Addr} {cap0 : Nat} {fp0 : List Nat} {p1 : Int} {r : (Bool)} (hm : m_spec_l00Has l0 p1 = some r) (F0 : Sl 1 encI w0 fp0 A0 l0) :
    Calls Try.prog 110 #[.slice A0 (l0).length cap0, .int .i64 (p1)] w0 fun e w' => e = .returned (.bool (r)) ∧ Chg [] w0 w' := by
  have L0 := F0.low
  have hB : Chg [] w0 w0 := Chg.refl _ _
  have hZ := Nat.le_refl w0.heap.size
  unfold m_spec_l00Has at hm
  refine enterE (N := 18) Try.func110 (by rfl) Try.ntmps110 (by simp) [(0, .slice A0 (l0).length cap0), (1, .int .i64 (p1))] (by rfl) (by kernel_rfl) (fun a => ?_)
  refine cW_seq ?_
  refine cW_region ?_
  refine wS_pure 1 [(4, .bool (false))] (by kernel_rfl) ?_
  refine wS_end (by rfl) ?_
  refine eX_then ?_
  refine cW_seq ?_
  refine cW_seq ?_
  refine cW_region ?_
  refine wS_pure 1 [(5, .int .i64 (0))] (by kernel_rfl) ?_
  refine wS_end (by rfl) ?_
  refine eX_then ?_
  obtain ⟨r21, hr22, hm⟩ := bindE hm
  have hm23 := hm
  refine cW_cut (fun a' w' => Sum.inl (()) = r21 ∧ Fr 18 [] a' ∧ Chg [] w0 w' ∧ w0.heap.size ≤ w'.heap.size) ?_ ?_
  · refine cW_block ?_
    refine cW_loop _ (fun (s24 : Int) a' w' => ∃ x18 : Int, x18 = s24 ∧ Fr 18 [(0, .slice A0 (l0).length cap0), (1, .int .i64 (p1)), (5, .int .i64 (x18))] a' ∧ Sl 1 encI w' fp0 A0 l0 ∧ Chg [] w0 w' ∧ w0.heap.size ≤ w'.heap.size) hr22 (fun hst => ⟨0, rfl, Fr.of hst (by kernel_rfl), F0, hB, hZ⟩) ?_
    rintro _ c25 a' w17 ⟨x18, rfl, hF19, F20, hB, hZ⟩ hx26
    refine Fr.goOn hF19 (by kernel_rfl) ?_
    have hm := hx26
    unfold m_spec_l00Has_s1 at hm
    refine cW_seq ?_
    refine cW_seq ?_
    refine cW_region ?_
    refine wS_pure 4 [(9, .bool (decide (x18 < (((l0).length : Int))))), (8, .int .i64 (((l0).length : Int))), (7, .slice A0 (l0).length cap0), (6, .int .i64 (x18))] (by kernel_rfl) ?_
    refine wS_end (by rfl) ?_
    refine eX_then ?_
    refine cW_cond (t := decide (x18 < (((l0).length : Int)))) (by kernel_rfl) (fun hb27 => ?_) (fun hb27 => ?_)
    · have hm := condT hb27 hm
      refine cW_skip ?_
      refine eX_then ?_
      refine cW_seq ?_
      refine cW_block ?_
      refine cW_seq ?_
      refine cW_region ?_
      refine wS_pure 2 [(13, .int .i64 (x18)), (12, .slice A0 (l0).length cap0)] (by kernel_rfl) ?_
      obtain ⟨x28, hx29, hm⟩ := bindE hm
      refine wS_idx (d := 14) (T := 38) (A := A0) (n := (l0).length) (cap := cap0) (kd := .i64) (m := x18) (by kernel_rfl) sl38 (F20.is hx29) ?_
      refine wS_load1 (d := 15) (T := 2) (ad := (elA A0 1 (x18) 0)) (v := .int .i64 (x28)) (by kernel_rfl) vt2 (Sl.cell F20 hx29 0 (by rfl)) ?_
      refine wS_pure 2 [(17, .bool (x28 == p1)), (16, .int .i64 (p1))] (by kernel_rfl) ?_
      refine wS_end (by rfl) ?_
      refine eX_then ?_
      refine cW_cond (t := x28 == p1) (by kernel_rfl) (fun hb30 => ?_) (fun hb30 => ?_)
      · have hm := condT hb30 hm
        refine cW_seq ?_
        refine cW_region ?_
        refine wS_pure 1 [(4, .bool (true))] (by kernel_rfl) ?_
        refine wS_end (by rfl) ?_
        refine eX_then ?_
        refine cW_ret ?_
        refine eX_block_ret ?_
        refine eX_then_ret ?_
        have hq : (some (Ctl.out (Sum.inr true)) : Option (Ctl (Int) (Sum (Unit) ((Bool))))) = some _ := hm
        replace hq := someE hq
        subst hq
        refine eX_outR hx26 (fun hr => ?_)
        subst hr
        refine eX_block_ret ?_
        refine eX_then_ret ?_
        refine eX_then_ret ?_
        have hq : (some true : Option ((Bool))) = some _ := hm23
        replace hq := someE hq
        subst hq
        refine eX_ret (vs := [.bool (true)]) [.tmp 4] (by rfl) ⟨by (show lkE _ _ _ = _); kernel_rfl, trivial⟩ ?_
        exact ⟨rfl, hB⟩
      · have hm := condF hb30 hm
        refine cW_skip ?_
        refine eX_block ?_
        refine eX_then ?_
        refine cW_region ?_
        refine wS_pure 3 [(5, .int .i64 (wr (x18 + 1))), (11, .int .i64 (wr (x18 + 1))), (10, .int .i64 (x18))] (by kernel_rfl) ?_
        refine wS_end (by rfl) ?_
        have hq : (some (Ctl.next (wr (x18 + 1))) : Option (Ctl (Int) (Sum (Unit) ((Bool))))) = some _ := hm
        replace hq := someE hq
        subst hq
        exact eX_next hx26 (fun hst => ⟨wr (x18 + 1), rfl, Fr.of hst (by kernel_rfl), F20, hB, hZ⟩)
    · have hm := condF hb27 hm
      refine cW_exit ?_
      refine eX_then_exit ?_
      have hq : (some (Ctl.out (Sum.inl (()))) : Option (Ctl (Int) (Sum (Unit) ((Bool))))) = some _ := hm
      replace hq := someE hq
      subst hq
      refine eX_outX hx26 (fun hr31 => ?_)
      replace hr31 := hr31.symm
      subst hr31
      refine eX_block_hit ?_
      exact eX_J (fun hst => ⟨rfl, Fr.of hst (by kernel_rfl), hB, hZ⟩)
  · rintro a' w15 ⟨hJ, hF16, hB, hZ⟩
    subst hJ
    refine Fr.goX hF16 (by kernel_rfl) ?_
    refine eX_then ?_
    refine cW_seq ?_
    refine cW_region ?_
    refine wS_pure 1 [(4, .bool (false))] (by kernel_rfl) ?_
    refine wS_end (by rfl) ?_
    refine eX_then ?_
    refine cW_ret ?_
    have hq : (some false : Option ((Bool))) = some _ := hm
    replace hq := someE hq
    subst hq
    refine eX_ret (vs := [.bool (false)]) [.tmp 4] (by rfl) ⟨by (show lkE _ _ _ = _); kernel_rfl, trivial⟩ ?_
    exact ⟨rfl, hB⟩

set_option maxRecDepth 100000 in
/-- spec.NearestJoins -/
theorem c_spec_NearestJoins {w0 : World} {l0 : List (Int × Int)} {A0 : Option Addr} {cap0 : Nat} {fp0 : List Nat} {r : (List (List (Int))) × (Bool)} (hm : m_spec_NearestJoins l0 = some r) (F0 : Sl 2 encII w0 fp0 A0 l0) :
    Calls Try.prog 54 #[.slice A0 (l0).length cap0] w0 fun e w' => ∃ A100 cap100 fp100 fr100, e = .returned (.tuple #[.slice A100 (r.1).length cap100, .bool (r.2)]) ∧ OwR 1 encI 38 2 w' fp100 fr100 A100 cap100 r.1 ∧ (∀ x ∈ fp100 ++ fr100, w0.heap.size ≤ x) ∧ Chg [] w0 w' := by
  have L0 := F0.low
  have hB : Chg [] w0 w0 := Chg.refl _ _
  have hZ := Nat.le_refl w0.heap.size
  unfold m_spec_NearestJoins at hm
  refine enterE (N := 120) Try.func54 (by rfl) Try.ntmps54 (by simp) [(0, .slice A0 (l0).length cap0)] (by rfl) (by kernel_rfl) (fun a => ?_)
  refine cW_seq ?_
  refine cW_region ?_
  refine wS_pure 2 [(3, .bool (false)), (2, .slice none 0 0)] (by kernel_rfl) ?_
  refine wS_end (by rfl) ?_
  refine eX_then ?_
  refine cW_seq ?_
  refine cW_seq ?_
  refine cW_region ?_
  refine wS_pure 1 [(16, .slice A0 (l0).length cap0)] (by kernel_rfl) ?_
  obtain ⟨y2, hy3, hm⟩ := bindE hm
  refine wS_calls (d := 17) (f := 107) (vs := [.slice A0 (l0).length cap0]) (by kernel_rfl) ent107 (c_spec_l06Pins hy3 F0) ?_
  rintro _ w4 ⟨rfl, hc5⟩
  replace F0 := F0.chg hc5 Dj.nil
  replace hB := hB.inS hc5 inNil
  replace hZ := Nat.le_trans hZ hc5.size
  refine ⟨.bool (y2), rfl, ?_⟩
  refine wS_pure 1 [(18, .bool (!y2))] (by kernel_rfl) ?_
  refine wS_end (by rfl) ?_
  refine eX_then ?_
  refine cW_cond (t := !y2) (by kernel_rfl) (fun hb6 => ?_) (fun hb6 => ?_)
  · have hm := condT hb6 hm
    refine cW_seq ?_
    refine cW_region ?_
    refine wS_pure 2 [(3, .bool (false)), (2, .slice none 0 0)] (by kernel_rfl) ?_
    refine wS_end (by rfl) ?_
    refine eX_then ?_
    refine cW_ret ?_
    refine eX_then_ret ?_
    have hq : (some (([], false)) : Option ((List (List (Int))) × (Bool))) = some _ := hm
    replace hq := someE hq
    subst hq
    refine eX_ret (vs := [.slice none 0 0, .bool (false)]) [.tmp 2, .tmp 3] (by rfl) ⟨by (show lkE _ _ _ = _); kernel_rfl, ⟨by (show lkE _ _ _ = _); kernel_rfl, trivial⟩⟩ ?_
    exact ⟨none, 0, [], [], rfl, OwR.nil _, (lowApp lowNil lowNil), hB⟩
  · have hm := condF hb6 hm
    refine cW_skip ?_
    refine eX_then ?_
    refine cW_seq ?_
    refine cW_region ?_
    refine wS_rows0 (k := 1) (enc := encI) (d := 19) (t := 37) (T := 38) (T2 := 2) (by kernel_rfl) el37 ?_
    intro b7 w8 G9 F10 hc11
    replace F0 := F0.chg hc11 Dj.nil
    replace hB := hB.inS hc11 inNil
    replace G9 := Nat.le_trans hZ G9
    replace G9 := low1 G9
    replace hZ := Nat.le_trans hZ hc11.size
    replace G9 := lowApp G9 lowNil
    refine wS_pure 1 [(4, .slice (some ⟨b7, 0, none⟩) (([] : List (List (Int)))).length 0)] (by kernel_rfl) ?_
    refine wS_end (by rfl) ?_
    refine eX_then ?_
    refine cW_seq ?_
    refine cW_region ?_
    refine wS_bs0 (α := Int) (enc := encI) (d := 20) (t := 38) (T := 2) (by kernel_rfl) el38 ?_
    intro b13 w14 G15 F16 hc17
    have D19 : Dj ([b7] ++ []) [b13] := Dj.of F10.low (low1 G15)
    replace F0 := F0.chg hc17 Dj.nil
    replace F10 := F10.chg hc17 Dj.nil
    replace hB := hB.inS hc17 inNil
    replace G15 := Nat.le_trans hZ G15
    replace G15 := low1 G15
    replace hZ := Nat.le_trans hZ hc17.size
    refine wS_pure 1 [(5, .slice (some ⟨b13, 0, none⟩) (([] : List (Int))).length 0)] (by kernel_rfl) ?_
    refine wS_end (by rfl) ?_
    refine eX_then ?_
    refine cW_seq ?_
    refine cW_seq ?_
    refine cW_region ?_
    refine wS_pure 1 [(6, .int .i64 (0))] (by kernel_rfl) ?_
    refine wS_end (by rfl) ?_
    refine eX_then ?_
    obtain ⟨r103, hr104, hm⟩ := bindE hm
    have hm105 := hm
    refine cW_cut (fun a' w' => ∃ l79 : List (Int), ∃ A80 : Option Addr, ∃ cap81 : Nat, ∃ fp82 : List Nat, l79 = r103 ∧ Fr 120 [(0, .slice A0 (l0).length cap0), (4, .slice (some ⟨b7, 0, none⟩) (([] : List (List (Int)))).length 0), (5, .slice A80 (l79).length cap81)] a' ∧ Sl 2 encII w' fp0 A0 l0 ∧ OwR 1 encI 38 2 w' [b7] [] (some ⟨b7, 0, none⟩) 0 (([] : List (List (Int)))) ∧ Ow 1 encI 2 w' fp82 A80 cap81 l79 ∧ (∀ x ∈ fp82, w0.heap.size ≤ x) ∧ Dj ([b7] ++ []) fp82 ∧ Chg [] w0 w' ∧ w0.heap.size ≤ w'.heap.size) ?_ ?_
    · refine cW_block ?_
      refine cW_loop _ (fun (s106 : (List (Int)) × Int) a' w' => ∃ l91 : List (Int), ∃ A92 : Option Addr, ∃ cap93 : Nat, ∃ fp94 : List Nat, ∃ x96 : Int, (l91, x96) = s106 ∧ Fr 120 [(0, .slice A0 (l0).length cap0), (4, .slice (some ⟨b7, 0, none⟩) (([] : List (List (Int)))).length 0), (5, .slice A92 (l91).length cap93), (6, .int .i64 (x96))] a' ∧ Sl 2 encII w' fp0 A0 l0 ∧ OwR 1 encI 38 2 w' [b7] [] (some ⟨b7, 0, none⟩) 0 (([] : List (List (Int)))) ∧ Ow 1 encI 2 w' fp94 A92 cap93 l91 ∧ (∀ x ∈ fp94, w0.heap.size ≤ x) ∧ Dj ([b7] ++ []) fp94 ∧ Chg [] w0 w' ∧ w0.heap.size ≤ w'.heap.size) hr104 (fun hst => ⟨([] : List (Int)), (some ⟨b13, 0, none⟩), 0, [b13], 0, rfl, Fr.of hst (by kernel_rfl), F0, F10, F16, G15, D19, hB, hZ⟩) ?_
      rintro _ c107 a' w90 ⟨l91, A92, cap93, fp94, x96, rfl, hF97, F98, F99, F100, G101, D102, hB, hZ⟩ hx108
      refine Fr.goOn hF97 (by kernel_rfl) ?_
      have hm := hx108
      unfold m_spec_NearestJoins_s1 at hm
      refine cW_seq ?_
      refine cW_seq ?_
      refine cW_region ?_
      refine wS_pure 4 [(24, .bool (decide (x96 < (((l0).length : Int))))), (23, .int .i64 (((l0).length : Int))), (22, .slice A0 (l0).length cap0), (21, .int .i64 (x96))] (by kernel_rfl) ?_
      refine wS_end (by rfl) ?_
      refine eX_then ?_
      refine cW_cond (t := decide (x96 < (((l0).length : Int)))) (by kernel_rfl) (fun hb109 => ?_) (fun hb109 => ?_)
      · have hm := condT hb109 hm
        refine cW_skip ?_
        refine eX_then ?_
        refine cW_seq ?_
        refine cW_block ?_
        refine cW_region ?_
        refine wS_pure 2 [(28, .int .i64 (x96)), (27, .slice A92 (l91).length cap93)] (by kernel_rfl) ?_
        refine wS_bs (enc := encI) ([x96] : List (Int)) [.int .i64 (x96)] (d := 29) (t := 38) (T := 2) (n := 1) (ps := [(0, .int .i64 (x96))]) (by kernel_rfl) el38 encI_ok (by rfl) (by omega) (by omega) (by kernel_rfl) (by rfl) ?_
        intro b110 w111 G112 F113 hc114
        have D116 : Dj ([b7] ++ []) [b110] := Dj.of F99.low (low1 G112)
        have D117 : Dj fp94 [b110] := Dj.of F100.low (low1 G112)
        replace F98 := F98.chg hc114 Dj.nil
        replace F99 := F99.chg hc114 Dj.nil
        replace F100 := F100.chg hc114 Dj.nil
        replace hB := hB.inS hc114 inNil
        replace G112 := Nat.le_trans hZ G112
        replace G112 := low1 G112
        replace hZ := Nat.le_trans hZ hc114.size
        obtain ⟨_, hk118, hm⟩ := bindE hm
        replace hk118 := apE hk118
        refine wS_append (enc := encI) (l := (l91 : List (Int))) (l2 := (([x96] : List (Int)) : List (Int))) (d := 30) (t := 38) (T := 2) (A := A92) (A2 := (some ⟨b110, 0, none⟩)) (cap := cap93) (cap2 := 1) (by kernel_rfl) el38 encI_ok F100 (F113.sl encI_ok) (by rfl) hk118 ?_
        intro w119 fp120 A121 cap122 F123 hc124 hp125
        have G127 := low_ap G101 hZ hp125
        have D128 : Dj ([b7] ++ []) fp120 := Dj.ap D102 F99.low hp125
        have D129 : Dj [b110] fp120 := Dj.ap (D117).symm F113.low hp125
        replace F98 := F98.chg hc124 (Dj.of L0 G101)
        replace F99 := F99.chg hc124 D102
        replace F113 := F113.chg hc124 (D117).symm
        replace hB := hB.inS hc124 (inLow G101)
        replace hZ := Nat.le_trans hZ hc124.size
        refine wS_pure 1 [(5, .slice A121 (l91 ++ (([x96] : List (Int)))).length cap122)] (by kernel_rfl) ?_
        refine wS_end (by rfl) ?_
        refine eX_block ?_
        refine eX_then ?_
        refine cW_region ?_
        refine wS_pure 3 [(6, .int .i64 (wr (x96 + 1))), (26, .int .i64 (wr (x96 + 1))), (25, .int .i64 (x96))] (by kernel_rfl) ?_
        refine wS_end (by rfl) ?_
        have hq : (some (Ctl.next ((l91 ++ (([x96] : List (Int))), wr (x96 + 1)))) : Option (Ctl ((List (Int)) × Int) ((List (Int))))) = some _ := hm
        replace hq := someE hq
        subst hq
        exact eX_next hx108 (fun hst => ⟨l91 ++ (([x96] : List (Int))), A121, cap122, fp120, wr (x96 + 1), rfl, Fr.of hst (by kernel_rfl), F98, F99, F123, G127, D128, hB, hZ⟩)
      · have hm := condF hb109 hm
        refine cW_exit ?_
        refine eX_then_exit ?_
        have hq : (some (Ctl.out l91) : Option (Ctl ((List (Int)) × Int) ((List (Int))))) = some _ := hm
        replace hq := someE hq
        subst hq
        refine eX_outX hx108 (fun hr130 => ?_)
        replace hr130 := hr130.symm
        subst hr130
        refine eX_block_hit ?_
        exact eX_J (fun hst => ⟨l91, A92, cap93, fp94, rfl, Fr.of hst (by kernel_rfl), F98, F99, F100, G101, D102, hB, hZ⟩)
    · rintro a' w78 ⟨l79, A80, cap81, fp82, hJ, hF84, F85, F86, F87, G88, D89, hB, hZ⟩
      subst hJ
      refine Fr.goX hF84 (by kernel_rfl) ?_
      refine eX_then ?_
      refine cW_seq ?_
      obtain ⟨r6428, hr6429, hm⟩ := bindE hm
      have hm6430 := hm
      refine cW_cut (fun a' w' => ∃ l6400 : List (List (Int)), ∃ A6401 : Option Addr, ∃ cap6402 : Nat, ∃ fp6403 : List Nat, ∃ fr6405 : List Nat, l6400 = r6428 ∧ Fr 120 [(4, .slice A6401 (l6400).length cap6402)] a' ∧ OwR 1 encI 38 2 w' fp6403 fr6405 A6401 cap6402 l6400 ∧ (∀ x ∈ (fp6403 ++ fr6405), w0.heap.size ≤ x) ∧ Chg [] w0 w' ∧ w0.heap.size ≤ w'.heap.size) ?_ ?_
      · refine cW_block ?_
        refine cW_loop _ (fun (s6431 : (List (List (Int))) × (List (Int))) a' w' => ∃ l6410 : List (List (Int)), ∃ A6411 : Option Addr, ∃ cap6412 : Nat, ∃ fp6413 : List Nat, ∃ fr6415 : List Nat, ∃ l6416 : List (Int), ∃ A6417 : Option Addr, ∃ cap6418 : Nat, ∃ fp6419 : List Nat, (l6410, l6416) = s6431 ∧ Fr 120 [(0, .slice A0 (l0).length cap0), (4, .slice A6411 (l6410).length cap6412), (5, .slice A6417 (l6416).length cap6418)] a' ∧ Sl 2 encII w' fp0 A0 l0 ∧ OwR 1 encI 38 2 w' fp6413 fr6415 A6411 cap6412 l6410 ∧ Ow 1 encI 2 w' fp6419 A6417 cap6418 l6416 ∧ (∀ x ∈ (fp6413 ++ fr6415), w0.heap.size ≤ x) ∧ (∀ x ∈ fp6419, w0.heap.size ≤ x) ∧ Dj fp6419 (fp6413 ++ fr6415) ∧ Chg [] w0 w' ∧ w0.heap.size ≤ w'.heap.size) hr6429 (fun hst => ⟨([] : List (List (Int))), (some ⟨b7, 0, none⟩), 0, [b7], [], l79, A80, cap81, fp82, rfl, Fr.of hst (by kernel_rfl), F85, F86, F87, G9, G88, (D89).symm, hB, hZ⟩) ?_
        rintro _ c6432 a' w6409 ⟨l6410, A6411, cap6412, fp6413, fr6415, l6416, A6417, cap6418, fp6419, rfl, hF6421, F6422, F6423, F6424, G6425, G6426, D6427, hB, hZ⟩ hx6433
        refine Fr.goOn hF6421 (by kernel_rfl) ?_
        have hm := hx6433
        unfold m_spec_NearestJoins_s12 at hm
        refine cW_seq ?_
        refine cW_seq ?_
        refine cW_region ?_
        refine wS_pure 3 [(33, .bool (decide ((((l6416).length : Int)) > 1))), (32, .int .i64 (((l6416).length : Int))), (31, .slice A6417 (l6416).length cap6418)] (by kernel_rfl) ?_
        refine wS_end (by rfl) ?_
        refine eX_then ?_
        refine cW_cond (t := decide ((((l6416).length : Int)) > 1)) (by kernel_rfl) (fun hb6434 => ?_) (fun hb6434 => ?_)
        · have hm := condT hb6434 hm
          refine cW_skip ?_
          refine eX_then ?_
          refine cW_block ?_
          refine cW_seq ?_
          refine cW_region ?_
          refine wS_pure 2 [(36, .slice A6411 (l6410).length cap6412), (35, .slice A0 (l0).length cap0)] (by kernel_rfl) ?_
          obtain ⟨y6435, hy6436, hm⟩ := bindE hm
          refine wS_calls (d := 37) (f := 108) (vs := [.slice A0 (l0).length cap0, .slice A6411 (l6410).length cap6412]) (by kernel_rfl) ent108 (c_spec_l06Tree hy6436 F6422 (F6423.slr encI_ok)) ?_
          rintro _ w6437 ⟨A6439, cap6440, fp6441, A6445, cap6446, fp6447, rfl, F6442, G6443, F6448, G6449, D6451, hc6438⟩
          have D6453 : Dj (fp6413 ++ fr6415) fp6441 := Dj.of F6423.low G6443
          have D6454 : Dj fp6419 fp6441 := Dj.of F6424.low G6443
          have D6456 : Dj (fp6413 ++ fr6415) fp6447 := Dj.of F6423.low G6449
          have D6457 : Dj fp6419 fp6447 := Dj.of F6424.low G6449
          replace F6422 := F6422.chg hc6438 Dj.nil
          replace F6423 := F6423.chg hc6438 Dj.nil
          replace F6424 := F6424.chg hc6438 Dj.nil
          replace hB := hB.inS hc6438 inNil
          replace G6443 := low_le hZ G6443
          replace G6449 := low_le hZ G6449
          replace hZ := Nat.le_trans hZ hc6438.size
          refine ⟨.tuple #[.slice A6439 (y6435.1).length cap6440, .slice A6445 (y6435.2).length cap6446], rfl, ?_⟩
          refine wS_pure 5 [(8, .slice A6445 (y6435.2).length cap6446), (7, .slice A6439 (y6435.1).length cap6440), (39, .slice A6445 (y6435.2).length cap6446), (38, .slice A6439 (y6435.1).length cap6440), (34, .tuple #[.slice A6439 (y6435.1).length cap6440, .slice A6445 (y6435.2).length cap6446])] (by kernel_rfl) ?_
          refine wS_end (by rfl) ?_
          refine eX_then ?_
          refine cW_seq ?_
          refine cW_region ?_
          refine wS_bs0 (α := Int) (enc := encI) (d := 40) (t := 38) (T := 2) (by kernel_rfl) el38 ?_
          intro b6458 w6459 G6460 F6461 hc6462
          have D6464 : Dj (fp6413 ++ fr6415) [b6458] := Dj.of F6423.low (low1 G6460)
          have D6465 : Dj fp6419 [b6458] := Dj.of F6424.low (low1 G6460)
          have D6466 : Dj fp6441 [b6458] := Dj.of F6442.low (low1 G6460)
          have D6467 : Dj fp6447 [b6458] := Dj.of F6448.low (low1 G6460)
          replace F6422 := F6422.chg hc6462 Dj.nil
          replace F6423 := F6423.chg hc6462 Dj.nil
          replace F6424 := F6424.chg hc6462 Dj.nil
          replace F6442 := F6442.chg hc6462 Dj.nil
          replace F6448 := F6448.chg hc6462 Dj.nil
          replace hB := hB.inS hc6462 inNil
          replace G6460 := Nat.le_trans hZ G6460
          replace G6460 := low1 G6460
          replace hZ := Nat.le_trans hZ hc6462.size
          refine wS_pure 1 [(9, .slice (some ⟨b6458, 0, none⟩) (([] : List (Int))).length 0)] (by kernel_rfl) ?_
          refine wS_end (by rfl) ?_
          refine eX_then ?_
          refine cW_seq ?_
          refine cW_region ?_
          refine wS_pure 1 [(10, .int .i64 ((-1)))] (by kernel_rfl) ?_
          refine wS_end (by rfl) ?_
          refine eX_then ?_
          refine cW_seq ?_
          refine cW_seq ?_
          refine cW_region ?_
          refine wS_pure 1 [(11, .int .i64 (0))] (by kernel_rfl) ?_
          refine wS_end (by rfl) ?_
          refine eX_then ?_
          obtain ⟨r8277, hr8278, hm⟩ := bindE hm
          have hm8279 := hm
          refine cW_cut (fun a' w' => ∃ l8244 : List (Int), ∃ A8245 : Option Addr, ∃ cap8246 : Nat, ∃ fp8247 : List Nat, l8244 = r8277 ∧ Fr 120 [(0, .slice A0 (l0).length cap0), (4, .slice A6411 (l6410).length cap6412), (5, .slice A6417 (l6416).length cap6418), (7, .slice A6439 (y6435.1).length cap6440), (9, .slice A8245 (l8244).length cap8246)] a' ∧ Sl 2 encII w' fp0 A0 l0 ∧ OwR 1 encI 38 2 w' fp6413 fr6415 A6411 cap6412 l6410 ∧ Ow 1 encI 2 w' fp6419 A6417 cap6418 l6416 ∧ Ow 5 encIIIII 27 w' fp6441 A6439 cap6440 y6435.1 ∧ Ow 1 encI 2 w' fp8247 A8245 cap8246 l8244 ∧ (∀ x ∈ fp8247, w0.heap.size ≤ x) ∧ Dj (fp6413 ++ fr6415) fp8247 ∧ Dj fp6419 fp8247 ∧ Dj fp6441 fp8247 ∧ Chg [] w0 w' ∧ w0.heap.size ≤ w'.heap.size) ?_ ?_
          · refine cW_block ?_
            refine cW_loop _ (fun (s8280 : (List (Int)) × Int × Int) a' w' => ∃ l8260 : List (Int), ∃ A8261 : Option Addr, ∃ cap8262 : Nat, ∃ fp8263 : List Nat, ∃ x8265 : Int, ∃ x8266 : Int, (l8260, x8265, x8266) = s8280 ∧ Fr 120 [(0, .slice A0 (l0).length cap0), (4, .slice A6411 (l6410).length cap6412), (5, .slice A6417 (l6416).length cap6418), (7, .slice A6439 (y6435.1).length cap6440), (9, .slice A8261 (l8260).length cap8262), (10, .int .i64 (x8265)), (11, .int .i64 (x8266))] a' ∧ Sl 2 encII w' fp0 A0 l0 ∧ OwR 1 encI 38 2 w' fp6413 fr6415 A6411 cap6412 l6410 ∧ Ow 1 encI 2 w' fp6419 A6417 cap6418 l6416 ∧ Ow 5 encIIIII 27 w' fp6441 A6439 cap6440 y6435.1 ∧ Ow 1 encI 2 w' fp8263 A8261 cap8262 l8260 ∧ (∀ x ∈ fp8263, w0.heap.size ≤ x) ∧ Dj (fp6413 ++ fr6415) fp8263 ∧ Dj fp6419 fp8263 ∧ Dj fp6441 fp8263 ∧ Chg [] w0 w' ∧ w0.heap.size ≤ w'.heap.size) hr8278 (fun hst => ⟨([] : List (Int)), (some ⟨b6458, 0, none⟩), 0, [b6458], (-1), 0, rfl, Fr.of hst (by kernel_rfl), F6422, F6423, F6424, F6442, F6461, G6460, D6464, D6465, D6466, hB, hZ⟩) ?_
            rintro _ c8281 a' w8259 ⟨l8260, A8261, cap8262, fp8263, x8265, x8266, rfl, hF8267, F8268, F8269, F8270, F8271, F8272, G8273, D8274, D8275, D8276, hB, hZ⟩ hx8282
            refine Fr.goOn hF8267 (by kernel_rfl) ?_
            have hm := hx8282
            unfold m_spec_NearestJoins_s15 at hm
            refine cW_seq ?_
            refine cW_seq ?_
            refine cW_region ?_
            refine wS_pure 4 [(44, .bool (decide (x8266 < (((l6416).length : Int))))), (43, .int .i64 (((l6416).length : Int))), (42, .slice A6417 (l6416).length cap6418), (41, .int .i64 (x8266))] (by kernel_rfl) ?_
            refine wS_end (by rfl) ?_
            refine eX_then ?_
            refine cW_cond (t := decide (x8266 < (((l6416).length : Int)))) (by kernel_rfl) (fun hb8283 => ?_) (fun hb8283 => ?_)
            · have hm := condT hb8283 hm
              refine cW_skip ?_
              refine eX_then ?_
              refine cW_seq ?_
              refine cW_block ?_
              refine cW_seq ?_
              refine cW_region ?_
              refine wS_pure 3 [(12, .int .i64 (wr (x8266 + 1))), (48, .int .i64 (wr (x8266 + 1))), (47, .int .i64 (x8266))] (by kernel_rfl) ?_
              refine wS_end (by rfl) ?_
              refine eX_then ?_
              obtain ⟨r8882, hr8883, hm⟩ := bindE hm
              have hm8884 := hm
              refine cW_cut (fun a' w' => ∃ l8848 : List (Int), ∃ A8849 : Option Addr, ∃ cap8850 : Nat, ∃ fp8851 : List Nat, ∃ x8853 : Int, (l8848, x8853) = r8882 ∧ Fr 120 [(0, .slice A0 (l0).length cap0), (4, .slice A6411 (l6410).length cap6412), (5, .slice A6417 (l6416).length cap6418), (7, .slice A6439 (y6435.1).length cap6440), (9, .slice A8849 (l8848).length cap8850), (10, .int .i64 (x8853)), (11, .int .i64 (x8266))] a' ∧ Sl 2 encII w' fp0 A0 l0 ∧ OwR 1 encI 38 2 w' fp6413 fr6415 A6411 cap6412 l6410 ∧ Ow 1 encI 2 w' fp6419 A6417 cap6418 l6416 ∧ Ow 5 encIIIII 27 w' fp6441 A6439 cap6440 y6435.1 ∧ Ow 1 encI 2 w' fp8851 A8849 cap8850 l8848 ∧ (∀ x ∈ fp8851, w0.heap.size ≤ x) ∧ Dj (fp6413 ++ fr6415) fp8851 ∧ Dj fp6419 fp8851 ∧ Dj fp6441 fp8851 ∧ Chg [] w0 w' ∧ w0.heap.size ≤ w'.heap.size) ?_ ?_
              · refine cW_block ?_
                refine cW_loop _ (fun (s8885 : (List (Int)) × Int × Int) a' w' => ∃ l8865 : List (Int), ∃ A8866 : Option Addr, ∃ cap8867 : Nat, ∃ fp8868 : List Nat, ∃ x8870 : Int, ∃ x8871 : Int, (l8865, x8870, x8871) = s8885 ∧ Fr 120 [(0, .slice A0 (l0).length cap0), (4, .slice A6411 (l6410).length cap6412), (5, .slice A6417 (l6416).length cap6418), (7, .slice A6439 (y6435.1).length cap6440), (9, .slice A8866 (l8865).length cap8867), (10, .int .i64 (x8870)), (11, .int .i64 (x8266)), (12, .int .i64 (x8871))] a' ∧ Sl 2 encII w' fp0 A0 l0 ∧ OwR 1 encI 38 2 w' fp6413 fr6415 A6411 cap6412 l6410 ∧ Ow 1 encI 2 w' fp6419 A6417 cap6418 l6416 ∧ Ow 5 encIIIII 27 w' fp6441 A6439 cap6440 y6435.1 ∧ Ow 1 encI 2 w' fp8868 A8866 cap8867 l8865 ∧ (∀ x ∈ fp8868, w0.heap.size ≤ x) ∧ Dj (fp6413 ++ fr6415) fp8868 ∧ Dj fp6419 fp8868 ∧ Dj fp6441 fp8868 ∧ Chg [] w0 w' ∧ w0.heap.size ≤ w'.heap.size) hr8883 (fun hst => ⟨l8260, A8261, cap8262, fp8263, x8265, wr (x8266 + 1), rfl, Fr.of hst (by kernel_rfl), F8268, F8269, F8270, F8271, F8272, G8273, D8274, D8275, D8276, hB, hZ⟩) ?_
                rintro _ c8886 a' w8864 ⟨l8865, A8866, cap8867, fp8868, x8870, x8871, rfl, hF8872, F8873, F8874, F8875, F8876, F8877, G8878, D8879, D8880, D8881, hB, hZ⟩ hx8887
                refine Fr.goOn hF8872 (by kernel_rfl) ?_
                have hm := hx8887
                unfold m_spec_NearestJoins_s16 at hm
                refine cW_seq ?_
                refine cW_seq ?_
                refine cW_region ?_
                refine wS_pure 4 [(52, .bool (decide (x8871 < (((l6416).length : Int))))), (51, .int .i64 (((l6416).length : Int))), (50, .slice A6417 (l6416).length cap6418), (49, .int .i64 (x8871))] (by kernel_rfl) ?_
                refine wS_end (by rfl) ?_
                refine eX_then ?_
                refine cW_cond (t := decide (x8871 < (((l6416).length : Int)))) (by kernel_rfl) (fun hb8888 => ?_) (fun hb8888 => ?_)
                · have hm := condT hb8888 hm
                  refine cW_skip ?_
                  refine eX_then ?_
                  refine cW_seq ?_
                  refine cW_block ?_
                  obtain ⟨s9031, hs9032, hm⟩ := bindE hm
                  refine cW_cut (fun a' w' => ∃ l9015 : List (Int), ∃ A9016 : Option Addr, ∃ cap9017 : Nat, ∃ fp9018 : List Nat, ∃ x9020 : Int, (l9015, x9020) = s9031 ∧ Fr 120 [(0, .slice A0 (l0).length cap0), (4, .slice A6411 (l6410).length cap6412), (5, .slice A6417 (l6416).length cap6418), (7, .slice A6439 (y6435.1).length cap6440), (9, .slice A9016 (l9015).length cap9017), (10, .int .i64 (x9020)), (11, .int .i64 (x8266)), (12, .int .i64 (x8871))] a' ∧ Sl 2 encII w' fp0 A0 l0 ∧ OwR 1 encI 38 2 w' fp6413 fr6415 A6411 cap6412 l6410 ∧ Ow 1 encI 2 w' fp6419 A6417 cap6418 l6416 ∧ Ow 5 encIIIII 27 w' fp6441 A6439 cap6440 y6435.1 ∧ Ow 1 encI 2 w' fp9018 A9016 cap9017 l9015 ∧ (∀ x ∈ fp9018, w0.heap.size ≤ x) ∧ Dj (fp6413 ++ fr6415) fp9018 ∧ Dj fp6419 fp9018 ∧ Dj fp6441 fp9018 ∧ Chg [] w0 w' ∧ w0.heap.size ≤ w'.heap.size) ?_ ?_
                  · have hm := hs9032
                    refine cW_seq ?_
                    refine cW_drawnTail [] 16 (by kernel_rfl) (by kernel_rfl) (fun w9052 hc9053 => ?_)
                    replace F8873 := F8873.chg hc9053 Dj.nil
                    replace F8874 := F8874.chg hc9053 Dj.nil
                    replace F8875 := F8875.chg hc9053 Dj.nil
                    replace F8876 := F8876.chg hc9053 Dj.nil
                    replace F8877 := F8877.chg hc9053 Dj.nil
                    replace hB := hB.inS hc9053 inNil
                    replace hZ := Nat.le_trans hZ hc9053.size
                    have hS := Chg.refl [] w9052
                    have Z9054 := F8873
                    have Z9055 := F8874
                    have Z9056 := F8875
                    have Z9057 := F8876
                    have Z9058 := F8877
                    refine wH_take [0, 1, 2] [2, 1, 0] [(57, .int .i64 (x8266)), (56, .slice A6417 (l6416).length cap6418), (55, .slice A6439 (y6435.1).length cap6440)] (by kernel_rfl) (qT (qT (qT (qB (qT (qL (qB (qT (qB (qT (qL (qB (qT (qT (qB (qL (qB (qT (qT qZ))))))))))))))))))) (by kernel_rfl) ?_
                    obtain ⟨x9059, hx9060, hm⟩ := bindE hm
                    refine wH_idx (i := 3) (d := 58) (T := 38) (A := A6417) (n := (l6416).length) (cap := cap6418) (kd := .i64) (m := x8266) (by kernel_rfl) (qT (qT (qT (qB (qT (qL (qB (qT (qB (qT (qL (qB (qT (qT (qB (qL (qB (qT (qT qZ))))))))))))))))))) (by kernel_rfl) (by kernel_rfl) sl38 ((F8875.sl encI_ok).is hx9060) ?_
                    refine wH_load1 (i := 4) (d := 59) (T := 2) (ad := (elA A6417 1 (x8266) 0)) (v := .int .i64 (x9059)) (by kernel_rfl) (qT (qT (qT (qB (qT (qL (qB (qT (qB (qT (qL (qB (qT (qT (qB (qL (qB (qT (qT qZ))))))))))))))))))) (by kernel_rfl) (by kernel_rfl) vt2 (fun W hW => Sl.cell ((Z9056.chg hW Dj.nil).sl encI_ok) hx9060 0 (by rfl)) ?_
                    obtain ⟨x9061, hx9062, hm⟩ := bindE hm
                    refine wH_idx (i := 5) (d := 60) (T := 61) (A := A6439) (n := (y6435.1).length) (cap := cap6440) (kd := .i64) (m := x9059) (by kernel_rfl) (qT (qT (qT (qB (qT (qL (qB (qT (qB (qT (qL (qB (qT (qT (qB (qL (qB (qT (qT qZ))))))))))))))))))) (by kernel_rfl) (by kernel_rfl) sl61 ((F8876.sl encIIIII_ok).is hx9062) ?_
                    refine wH_take [6] [6, 5, 4, 3, 2, 1, 0] [(61, .pointer (some (elA A6439 5 (x9059) 0)))] (by kernel_rfl) (qT (qT (qT (qB (qT (qL (qB (qT (qB (qT (qL (qB (qT (qT (qB (qL (qB (qT (qT qZ))))))))))))))))))) (by kernel_rfl) ?_
                    refine wH_loadA (i := 7) (d := 62) (T := 25) (ad := (elA A6439 5 (x9059) 0)) (vs := [.int .i64 (x9061.1), .int .i64 (x9061.2.1), .int .i64 (x9061.2.2.1), .int .i64 (x9061.2.2.2.1)]) (by kernel_rfl) (qT (qT (qT (qB (qT (qL (qB (qT (qB (qT (qL (qB (qT (qT (qB (qL (qB (qT (qT qZ))))))))))))))))))) (by kernel_rfl) (by kernel_rfl) vt25 (fun W hW i u hu => Sl.cells_at ((Z9057.chg hW Dj.nil).sl encIIIII_ok) hx9062 0 hu (by rfl)) ?_
                    refine wH_take [8, 9, 10] [10, 9, 8, 7, 6, 5, 4, 3, 2, 1, 0] [(65, .int .i64 (x8871)), (64, .slice A6417 (l6416).length cap6418), (63, .slice A6439 (y6435.1).length cap6440)] (by kernel_rfl) (qT (qT (qT (qB (qT (qL (qB (qT (qB (qT (qL (qB (qT (qT (qB (qL (qB (qT (qT qZ))))))))))))))))))) (by kernel_rfl) ?_
                    obtain ⟨x9063, hx9064, hm⟩ := bindE hm
                    refine wH_idx (i := 11) (d := 66) (T := 38) (A := A6417) (n := (l6416).length) (cap := cap6418) (kd := .i64) (m := x8871) (by kernel_rfl) (qT (qT (qT (qB (qT (qL (qB (qT (qB (qT (qL (qB (qT (qT (qB (qL (qB (qT (qT qZ))))))))))))))))))) (by kernel_rfl) (by kernel_rfl) sl38 ((F8875.sl encI_ok).is hx9064) ?_
                    refine wH_load1 (i := 12) (d := 67) (T := 2) (ad := (elA A6417 1 (x8871) 0)) (v := .int .i64 (x9063)) (by kernel_rfl) (qT (qT (qT (qB (qT (qL (qB (qT (qB (qT (qL (qB (qT (qT (qB (qL (qB (qT (qT qZ))))))))))))))))))) (by kernel_rfl) (by kernel_rfl) vt2 (fun W hW => Sl.cell ((Z9056.chg hW Dj.nil).sl encI_ok) hx9064 0 (by rfl)) ?_
                    obtain ⟨x9065, hx9066, hm⟩ := bindE hm
                    refine wH_idx (i := 13) (d := 68) (T := 61) (A := A6439) (n := (y6435.1).length) (cap := cap6440) (kd := .i64) (m := x9063) (by kernel_rfl) (qT (qT (qT (qB (qT (qL (qB (qT (qB (qT (qL (qB (qT (qT (qB (qL (qB (qT (qT qZ))))))))))))))))))) (by kernel_rfl) (by kernel_rfl) sl61 ((F8876.sl encIIIII_ok).is hx9066) ?_
                    refine wH_take [14] [14, 13, 12, 11, 10, 9, 8, 7, 6, 5, 4, 3, 2, 1, 0] [(69, .pointer (some (elA A6439 5 (x9063) 0)))] (by kernel_rfl) (qT (qT (qT (qB (qT (qL (qB (qT (qB (qT (qL (qB (qT (qT (qB (qL (qB (qT (qT qZ))))))))))))))))))) (by kernel_rfl) ?_
                    refine wH_loadA (i := 15) (d := 70) (T := 25) (ad := (elA A6439 5 (x9063) 0)) (vs := [.int .i64 (x9065.1), .int .i64 (x9065.2.1), .int .i64 (x9065.2.2.1), .int .i64 (x9065.2.2.2.1)]) (by kernel_rfl) (qT (qT (qT (qB (qT (qL (qB (qT (qB (qT (qL (qB (qT (qT (qB (qL (qB (qT (qT qZ))))))))))))))))))) (by kernel_rfl) (by kernel_rfl) vt25 (fun W hW i u hu => Sl.cells_at ((Z9057.chg hW Dj.nil).sl encIIIII_ok) hx9066 0 hu (by rfl)) ?_
                    refine wH_done (by kernel_rfl) ?_
                    refine eX_tail ?_
                    obtain ⟨y9067, hy9068, hm⟩ := bindE hm
                    refine wS_calls (d := 71) (f := 109) (vs := [.agg #[.int .i64 (x9061.1), .int .i64 (x9061.2.1), .int .i64 (x9061.2.2.1), .int .i64 (x9061.2.2.2.1)], .agg #[.int .i64 (x9065.1), .int .i64 (x9065.2.1), .int .i64 (x9065.2.2.1), .int .i64 (x9065.2.2.2.1)]]) (by kernel_rfl) ent109 (c_spec_l06Far hy9068) ?_
                    rintro _ w9069 ⟨rfl, hc9070⟩
                    replace F8873 := F8873.chg hc9070 Dj.nil
                    replace F8874 := F8874.chg hc9070 Dj.nil
                    replace F8875 := F8875.chg hc9070 Dj.nil
                    replace F8876 := F8876.chg hc9070 Dj.nil
                    replace F8877 := F8877.chg hc9070 Dj.nil
                    replace hB := hB.inS hc9070 inNil
                    replace hZ := Nat.le_trans hZ hc9070.size
                    refine ⟨.int .i64 (y9067), rfl, ?_⟩
                    refine wS_pure 1 [(13, .int .i64 (y9067))] (by kernel_rfl) ?_
                    refine wS_end (by rfl) ?_
                    refine eX_then ?_
                    refine cW_prune [(0, .slice A0 (l0).length cap0), (4, .slice A6411 (l6410).length cap6412), (5, .slice A6417 (l6416).length cap6418), (7, .slice A6439 (y6435.1).length cap6440), (9, .slice A8866 (l8865).length cap8867), (10, .int .i64 (x8870)), (11, .int .i64 (x8266)), (12, .int .i64 (x8871)), (13, .int .i64 (y9067))] (by kernel_rfl) (by kernel_rfl) (fun a9071 => ?_)
                    refine cW_seq ?_
                    refine cW_region ?_
                    refine wS_pure 3 [(74, .bool (decide (x8870 < 0))), (73, .bool (decide (x8870 < 0))), (72, .int .i64 (x8870))] (by kernel_rfl) ?_
                    refine wS_bool (decide (x8870 < 0)) (fun hb9072 => ?_) (fun hb9072 => ?_)
                    · have hm := condT hb9072 hm
                      rewrite [hb9072]
                      refine wS_pure 4 [(78, .bool (true)), (77, undef), (76, undef), (75, undef)] (by kernel_rfl) ?_
                      refine wS_end (by rfl) ?_
                      refine eX_then ?_
                      refine cW_cond_t (by kernel_rfl) ?_
                      refine cW_seq ?_
                      refine cW_region ?_
                      refine wS_pure 2 [(10, .int .i64 (y9067)), (79, .int .i64 (y9067))] (by kernel_rfl) ?_
                      refine wS_end (by rfl) ?_
                      refine eX_then ?_
                      refine cW_drawnTail [] 8 (by kernel_rfl) (by kernel_rfl) (fun w9094 hc9095 => ?_)
                      replace F8873 := F8873.chg hc9095 Dj.nil
                      replace F8874 := F8874.chg hc9095 Dj.nil
                      replace F8875 := F8875.chg hc9095 Dj.nil
                      replace F8876 := F8876.chg hc9095 Dj.nil
                      replace F8877 := F8877.chg hc9095 Dj.nil
                      replace hB := hB.inS hc9095 inNil
                      replace hZ := Nat.le_trans hZ hc9095.size
                      have hS := Chg.refl [] w9094
                      have Z9096 := F8873
                      have Z9097 := F8874
                      have Z9098 := F8875
                      have Z9099 := F8876
                      have Z9100 := F8877
                      refine wH_take [0, 1] [1, 0] [(81, .int .i64 (x8266)), (80, .slice A6417 (l6416).length cap6418)] (by kernel_rfl) (qT (qT (qB (qT (qL (qB (qT (qB (qT (qL (qB (qT (qT (qB (qL (qB (qT (qT qZ)))))))))))))))))) (by kernel_rfl) ?_
                      obtain ⟨x9101, hx9102, hm⟩ := bindE hm
                      refine wH_idx (i := 2) (d := 82) (T := 38) (A := A6417) (n := (l6416).length) (cap := cap6418) (kd := .i64) (m := x8266) (by kernel_rfl) (qT (qT (qB (qT (qL (qB (qT (qB (qT (qL (qB (qT (qT (qB (qL (qB (qT (qT qZ)))))))))))))))))) (by kernel_rfl) (by kernel_rfl) sl38 ((F8875.sl encI_ok).is hx9102) ?_
                      refine wH_load1 (i := 3) (d := 83) (T := 2) (ad := (elA A6417 1 (x8266) 0)) (v := .int .i64 (x9101)) (by kernel_rfl) (qT (qT (qB (qT (qL (qB (qT (qB (qT (qL (qB (qT (qT (qB (qL (qB (qT (qT qZ)))))))))))))))))) (by kernel_rfl) (by kernel_rfl) vt2 (fun W hW => Sl.cell ((Z9098.chg hW Dj.nil).sl encI_ok) hx9102 0 (by rfl)) ?_
                      refine wH_take [4, 5] [5, 4, 3, 2, 1, 0] [(85, .int .i64 (x8871)), (84, .slice A6417 (l6416).length cap6418)] (by kernel_rfl) (qT (qT (qB (qT (qL (qB (qT (qB (qT (qL (qB (qT (qT (qB (qL (qB (qT (qT qZ)))))))))))))))))) (by kernel_rfl) ?_
                      obtain ⟨x9103, hx9104, hm⟩ := bindE hm
                      refine wH_idx (i := 6) (d := 86) (T := 38) (A := A6417) (n := (l6416).length) (cap := cap6418) (kd := .i64) (m := x8871) (by kernel_rfl) (qT (qT (qB (qT (qL (qB (qT (qB (qT (qL (qB (qT (qT (qB (qL (qB (qT (qT qZ)))))))))))))))))) (by kernel_rfl) (by kernel_rfl) sl38 ((F8875.sl encI_ok).is hx9104) ?_
                      refine wH_load1 (i := 7) (d := 87) (T := 2) (ad := (elA A6417 1 (x8871) 0)) (v := .int .i64 (x9103)) (by kernel_rfl) (qT (qT (qB (qT (qL (qB (qT (qB (qT (qL (qB (qT (qT (qB (qL (qB (qT (qT qZ)))))))))))))))))) (by kernel_rfl) (by kernel_rfl) vt2 (fun W hW => Sl.cell ((Z9098.chg hW Dj.nil).sl encI_ok) hx9104 0 (by rfl)) ?_
                      refine wH_done (by kernel_rfl) ?_
                      refine eX_tail ?_
                      refine wS_bs (enc := encI) ([x9101, x9103] : List (Int)) [.int .i64 (x9101), .int .i64 (x9103)] (d := 88) (t := 38) (T := 2) (n := 2) (ps := [(0, .int .i64 (x9101)), (1, .int .i64 (x9103))]) (by kernel_rfl) el38 encI_ok (by rfl) (by omega) (by omega) (by kernel_rfl) (by rfl) ?_
                      intro b9105 w9106 G9107 F9108 hc9109
                      have D9111 : Dj (fp6413 ++ fr6415) [b9105] := Dj.of F8874.low (low1 G9107)
                      have D9112 : Dj fp6419 [b9105] := Dj.of F8875.low (low1 G9107)
                      have D9113 : Dj fp6441 [b9105] := Dj.of F8876.low (low1 G9107)
                      have D9114 : Dj fp8868 [b9105] := Dj.of F8877.low (low1 G9107)
                      replace F8873 := F8873.chg hc9109 Dj.nil
                      replace F8874 := F8874.chg hc9109 Dj.nil
                      replace F8875 := F8875.chg hc9109 Dj.nil
                      replace F8876 := F8876.chg hc9109 Dj.nil
                      replace F8877 := F8877.chg hc9109 Dj.nil
                      replace hB := hB.inS hc9109 inNil
                      replace G9107 := Nat.le_trans hZ G9107
                      replace G9107 := low1 G9107
                      replace hZ := Nat.le_trans hZ hc9109.size
                      refine wS_pure 1 [(9, .slice (some ⟨b9105, 0, none⟩) (([x9101, x9103] : List (Int))).length 2)] (by kernel_rfl) ?_
                      refine wS_end (by rfl) ?_
                      have hq : (some ((([x9101, x9103] : List (Int)), y9067)) : Option ((List (Int)) × Int)) = some _ := hm
                      replace hq := someE hq
                      subst hq
                      exact eX_J (fun hst => ⟨([x9101, x9103] : List (Int)), (some ⟨b9105, 0, none⟩), 2, [b9105], y9067, rfl, Fr.of hst (by kernel_rfl), F8873, F8874, F8875, F8876, F9108, G9107, D9111, D9112, D9113, hB, hZ⟩)
                    · have hm := condF hb9072 hm
                      rewrite [hb9072]
                      refine wS_pure 4 [(78, .bool (decide (y9067 < x8870))), (77, .bool (decide (y9067 < x8870))), (76, .int .i64 (x8870)), (75, .int .i64 (y9067))] (by kernel_rfl) ?_
                      refine wS_end (by rfl) ?_
                      refine eX_then ?_
                      refine cW_cond (t := decide (y9067 < x8870)) (by kernel_rfl) (fun hb9115 => ?_) (fun hb9115 => ?_)
                      · have hm := condT hb9115 hm
                        refine cW_seq ?_
                        refine cW_region ?_
                        refine wS_pure 2 [(10, .int .i64 (y9067)), (79, .int .i64 (y9067))] (by kernel_rfl) ?_
                        refine wS_end (by rfl) ?_
                        refine eX_then ?_
                        refine cW_drawnTail [] 8 (by kernel_rfl) (by kernel_rfl) (fun w9137 hc9138 => ?_)
                        replace F8873 := F8873.chg hc9138 Dj.nil
                        replace F8874 := F8874.chg hc9138 Dj.nil
                        replace F8875 := F8875.chg hc9138 Dj.nil
                        replace F8876 := F8876.chg hc9138 Dj.nil
                        replace F8877 := F8877.chg hc9138 Dj.nil
                        replace hB := hB.inS hc9138 inNil
                        replace hZ := Nat.le_trans hZ hc9138.size
                        have hS := Chg.refl [] w9137
                        have Z9139 := F8873
                        have Z9140 := F8874
                        have Z9141 := F8875
                        have Z9142 := F8876
                        have Z9143 := F8877
                        refine wH_take [0, 1] [1, 0] [(81, .int .i64 (x8266)), (80, .slice A6417 (l6416).length cap6418)] (by kernel_rfl) (qT (qT (qB (qT (qL (qB (qT (qB (qT (qL (qB (qT (qT (qB (qL (qB (qT (qT qZ)))))))))))))))))) (by kernel_rfl) ?_
                        obtain ⟨x9144, hx9145, hm⟩ := bindE hm
                        refine wH_idx (i := 2) (d := 82) (T := 38) (A := A6417) (n := (l6416).length) (cap := cap6418) (kd := .i64) (m := x8266) (by kernel_rfl) (qT (qT (qB (qT (qL (qB (qT (qB (qT (qL (qB (qT (qT (qB (qL (qB (qT (qT qZ)))))))))))))))))) (by kernel_rfl) (by kernel_rfl) sl38 ((F8875.sl encI_ok).is hx9145) ?_
                        refine wH_load1 (i := 3) (d := 83) (T := 2) (ad := (elA A6417 1 (x8266) 0)) (v := .int .i64 (x9144)) (by kernel_rfl) (qT (qT (qB (qT (qL (qB (qT (qB (qT (qL (qB (qT (qT (qB (qL (qB (qT (qT qZ)))))))))))))))))) (by kernel_rfl) (by kernel_rfl) vt2 (fun W hW => Sl.cell ((Z9141.chg hW Dj.nil).sl encI_ok) hx9145 0 (by rfl)) ?_
                        refine wH_take [4, 5] [5, 4, 3, 2, 1, 0] [(85, .int .i64 (x8871)), (84, .slice A6417 (l6416).length cap6418)] (by kernel_rfl) (qT (qT (qB (qT (qL (qB (qT (qB (qT (qL (qB (qT (qT (qB (qL (qB (qT (qT qZ)))))))))))))))))) (by kernel_rfl) ?_
                        obtain ⟨x9146, hx9147, hm⟩ := bindE hm
                        refine wH_idx (i := 6) (d := 86) (T := 38) (A := A6417) (n := (l6416).length) (cap := cap6418) (kd := .i64) (m := x8871) (by kernel_rfl) (qT (qT (qB (qT (qL (qB (qT (qB (qT (qL (qB (qT (qT (qB (qL (qB (qT (qT qZ)))))))))))))))))) (by kernel_rfl) (by kernel_rfl) sl38 ((F8875.sl encI_ok).is hx9147) ?_
                        refine wH_load1 (i := 7) (d := 87) (T := 2) (ad := (elA A6417 1 (x8871) 0)) (v := .int .i64 (x9146)) (by kernel_rfl) (qT (qT (qB (qT (qL (qB (qT (qB (qT (qL (qB (qT (qT (qB (qL (qB (qT (qT qZ)))))))))))))))))) (by kernel_rfl) (by kernel_rfl) vt2 (fun W hW => Sl.cell ((Z9141.chg hW Dj.nil).sl encI_ok) hx9147 0 (by rfl)) ?_
                        refine wH_done (by kernel_rfl) ?_
                        refine eX_tail ?_
                        refine wS_bs (enc := encI) ([x9144, x9146] : List (Int)) [.int .i64 (x9144), .int .i64 (x9146)] (d := 88) (t := 38) (T := 2) (n := 2) (ps := [(0, .int .i64 (x9144)), (1, .int .i64 (x9146))]) (by kernel_rfl) el38 encI_ok (by rfl) (by omega) (by omega) (by kernel_rfl) (by rfl) ?_
                        intro b9148 w9149 G9150 F9151 hc9152
                        have D9154 : Dj (fp6413 ++ fr6415) [b9148] := Dj.of F8874.low (low1 G9150)
                        have D9155 : Dj fp6419 [b9148] := Dj.of F8875.low (low1 G9150)
                        have D9156 : Dj fp6441 [b9148] := Dj.of F8876.low (low1 G9150)
                        have D9157 : Dj fp8868 [b9148] := Dj.of F8877.low (low1 G9150)
                        replace F8873 := F8873.chg hc9152 Dj.nil
                        replace F8874 := F8874.chg hc9152 Dj.nil
                        replace F8875 := F8875.chg hc9152 Dj.nil
                        replace F8876 := F8876.chg hc9152 Dj.nil
                        replace F8877 := F8877.chg hc9152 Dj.nil
                        replace hB := hB.inS hc9152 inNil
                        replace G9150 := Nat.le_trans hZ G9150
                        replace G9150 := low1 G9150
                        replace hZ := Nat.le_trans hZ hc9152.size
                        refine wS_pure 1 [(9, .slice (some ⟨b9148, 0, none⟩) (([x9144, x9146] : List (Int))).length 2)] (by kernel_rfl) ?_
                        refine wS_end (by rfl) ?_
                        have hq : (some ((([x9144, x9146] : List (Int)), y9067)) : Option ((List (Int)) × Int)) = some _ := hm
                        replace hq := someE hq
                        subst hq
                        exact eX_J (fun hst => ⟨([x9144, x9146] : List (Int)), (some ⟨b9148, 0, none⟩), 2, [b9148], y9067, rfl, Fr.of hst (by kernel_rfl), F8873, F8874, F8875, F8876, F9151, G9150, D9154, D9155, D9156, hB, hZ⟩)
                      · have hm := condF hb9115 hm
                        refine cW_skip ?_
                        have hq : (some ((l8865, x8870)) : Option ((List (Int)) × Int)) = some _ := hm
                        replace hq := someE hq
                        subst hq
                        exact eX_J (fun hst => ⟨l8865, A8866, cap8867, fp8868, x8870, rfl, Fr.of hst (by kernel_rfl), F8873, F8874, F8875, F8876, F8877, G8878, D8879, D8880, D8881, hB, hZ⟩)
                  · rintro a' w9014 ⟨l9015, A9016, cap9017, fp9018, x9020, hJ, hF9021, F9022, F9023, F9024, F9025, F9026, G9027, D9028, D9029, D9030, hB, hZ⟩
                    subst hJ
                    refine Fr.goX hF9021 (by kernel_rfl) ?_
                    refine eX_block ?_
                    refine eX_then ?_
                    refine cW_region ?_
                    refine wS_pure 3 [(12, .int .i64 (wr (x8871 + 1))), (54, .int .i64 (wr (x8871 + 1))), (53, .int .i64 (x8871))] (by kernel_rfl) ?_
                    refine wS_end (by rfl) ?_
                    have hq : (some (Ctl.next ((l9015, x9020, wr (x8871 + 1)))) : Option (Ctl ((List (Int)) × Int × Int) ((List (Int)) × Int))) = some _ := hm
                    replace hq := someE hq
                    subst hq
                    exact eX_next hx8887 (fun hst => ⟨l9015, A9016, cap9017, fp9018, x9020, wr (x8871 + 1), rfl, Fr.of hst (by kernel_rfl), F9022, F9023, F9024, F9025, F9026, G9027, D9028, D9029, D9030, hB, hZ⟩)
                · have hm := condF hb8888 hm
                  refine cW_exit ?_
                  refine eX_then_exit ?_
                  have hq : (some (Ctl.out ((l8865, x8870))) : Option (Ctl ((List (Int)) × Int × Int) ((List (Int)) × Int))) = some _ := hm
                  replace hq := someE hq
                  subst hq
                  refine eX_outX hx8887 (fun hr9158 => ?_)
                  replace hr9158 := hr9158.symm
                  subst hr9158
                  refine eX_block_hit ?_
                  exact eX_J (fun hst => ⟨l8865, A8866, cap8867, fp8868, x8870, rfl, Fr.of hst (by kernel_rfl), F8873, F8874, F8875, F8876, F8877, G8878, D8879, D8880, D8881, hB, hZ⟩)
              · rintro a' w8847 ⟨l8848, A8849, cap8850, fp8851, x8853, hJ, hF8854, F8855, F8856, F8857, F8858, F8859, G8860, D8861, D8862, D8863, hB, hZ⟩
                subst hJ
                refine Fr.goX hF8854 (by kernel_rfl) ?_
                refine eX_block ?_
                refine eX_then ?_
                refine cW_region ?_
                refine wS_pure 3 [(11, .int .i64 (wr (x8266 + 1))), (46, .int .i64 (wr (x8266 + 1))), (45, .int .i64 (x8266))] (by kernel_rfl) ?_
                refine wS_end (by rfl) ?_
                have hq : (some (Ctl.next ((l8848, x8853, wr (x8266 + 1)))) : Option (Ctl ((List (Int)) × Int × Int) ((List (Int))))) = some _ := hm
                replace hq := someE hq
                subst hq
                exact eX_next hx8282 (fun hst => ⟨l8848, A8849, cap8850, fp8851, x8853, wr (x8266 + 1), rfl, Fr.of hst (by kernel_rfl), F8855, F8856, F8857, F8858, F8859, G8860, D8861, D8862, D8863, hB, hZ⟩)
            · have hm := condF hb8283 hm
              refine cW_exit ?_
              refine eX_then_exit ?_
              have hq : (some (Ctl.out l8260) : Option (Ctl ((List (Int)) × Int × Int) ((List (Int))))) = some _ := hm
              replace hq := someE hq
              subst hq
              refine eX_outX hx8282 (fun hr9159 => ?_)
              replace hr9159 := hr9159.symm
              subst hr9159
              refine eX_block_hit ?_
              exact eX_J (fun hst => ⟨l8260, A8261, cap8262, fp8263, rfl, Fr.of hst (by kernel_rfl), F8268, F8269, F8270, F8271, F8272, G8273, D8274, D8275, D8276, hB, hZ⟩)
          · rintro a' w8243 ⟨l8244, A8245, cap8246, fp8247, hJ, hF8249, F8250, F8251, F8252, F8253, F8254, G8255, D8256, D8257, D8258, hB, hZ⟩
            subst hJ
            refine Fr.goX hF8249 (by kernel_rfl) ?_
            refine eX_then ?_
            refine cW_seq ?_
            refine cW_region ?_
            refine wS_bs0 (α := Int) (enc := encI) (d := 89) (t := 38) (T := 2) (by kernel_rfl) el38 ?_
            intro b9160 w9161 G9162 F9163 hc9164
            have D9166 : Dj (fp6413 ++ fr6415) [b9160] := Dj.of F8251.low (low1 G9162)
            have D9167 : Dj fp6419 [b9160] := Dj.of F8252.low (low1 G9162)
            have D9168 : Dj fp6441 [b9160] := Dj.of F8253.low (low1 G9162)
            have D9169 : Dj fp8247 [b9160] := Dj.of F8254.low (low1 G9162)
            replace F8250 := F8250.chg hc9164 Dj.nil
            replace F8251 := F8251.chg hc9164 Dj.nil
            replace F8252 := F8252.chg hc9164 Dj.nil
            replace F8253 := F8253.chg hc9164 Dj.nil
            replace F8254 := F8254.chg hc9164 Dj.nil
            replace hB := hB.inS hc9164 inNil
            replace G9162 := Nat.le_trans hZ G9162
            replace G9162 := low1 G9162
            replace hZ := Nat.le_trans hZ hc9164.size
            refine wS_pure 1 [(14, .slice (some ⟨b9160, 0, none⟩) (([] : List (Int))).length 0)] (by kernel_rfl) ?_
            refine wS_end (by rfl) ?_
            refine eX_then ?_
            refine cW_seq ?_
            refine cW_seq ?_
            refine cW_region ?_
            refine wS_pure 1 [(15, .int .i64 (0))] (by kernel_rfl) ?_
            refine wS_end (by rfl) ?_
            refine eX_then ?_
            obtain ⟨r9412, hr9413, hm⟩ := bindE hm
            have hm9414 := hm
            refine cW_cut (fun a' w' => ∃ l9378 : List (Int), ∃ A9379 : Option Addr, ∃ cap9380 : Nat, ∃ fp9381 : List Nat, l9378 = r9412 ∧ Fr 120 [(0, .slice A0 (l0).length cap0), (4, .slice A6411 (l6410).length cap6412), (7, .slice A6439 (y6435.1).length cap6440), (9, .slice A8245 (l8244).length cap8246), (14, .slice A9379 (l9378).length cap9380)] a' ∧ Sl 2 encII w' fp0 A0 l0 ∧ OwR 1 encI 38 2 w' fp6413 fr6415 A6411 cap6412 l6410 ∧ Ow 5 encIIIII 27 w' fp6441 A6439 cap6440 y6435.1 ∧ Ow 1 encI 2 w' fp8247 A8245 cap8246 l8244 ∧ Ow 1 encI 2 w' fp9381 A9379 cap9380 l9378 ∧ (∀ x ∈ fp9381, w0.heap.size ≤ x) ∧ Dj (fp6413 ++ fr6415) fp9381 ∧ Dj fp6441 fp9381 ∧ Dj fp8247 fp9381 ∧ Chg [] w0 w' ∧ w0.heap.size ≤ w'.heap.size) ?_ ?_
            · refine cW_block ?_
              refine cW_loop _ (fun (s9415 : (List (Int)) × Int) a' w' => ∃ l9394 : List (Int), ∃ A9395 : Option Addr, ∃ cap9396 : Nat, ∃ fp9397 : List Nat, ∃ x9399 : Int, (l9394, x9399) = s9415 ∧ Fr 120 [(0, .slice A0 (l0).length cap0), (4, .slice A6411 (l6410).length cap6412), (5, .slice A6417 (l6416).length cap6418), (7, .slice A6439 (y6435.1).length cap6440), (9, .slice A8245 (l8244).length cap8246), (14, .slice A9395 (l9394).length cap9396), (15, .int .i64 (x9399))] a' ∧ Sl 2 encII w' fp0 A0 l0 ∧ OwR 1 encI 38 2 w' fp6413 fr6415 A6411 cap6412 l6410 ∧ Ow 1 encI 2 w' fp6419 A6417 cap6418 l6416 ∧ Ow 5 encIIIII 27 w' fp6441 A6439 cap6440 y6435.1 ∧ Ow 1 encI 2 w' fp8247 A8245 cap8246 l8244 ∧ Ow 1 encI 2 w' fp9397 A9395 cap9396 l9394 ∧ (∀ x ∈ fp9397, w0.heap.size ≤ x) ∧ Dj (fp6413 ++ fr6415) fp9397 ∧ Dj fp6419 fp9397 ∧ Dj fp6441 fp9397 ∧ Dj fp8247 fp9397 ∧ Chg [] w0 w' ∧ w0.heap.size ≤ w'.heap.size) hr9413 (fun hst => ⟨([] : List (Int)), (some ⟨b9160, 0, none⟩), 0, [b9160], 0, rfl, Fr.of hst (by kernel_rfl), F8250, F8251, F8252, F8253, F8254, F9163, G9162, D9166, D9167, D9168, D9169, hB, hZ⟩) ?_
              rintro _ c9416 a' w9393 ⟨l9394, A9395, cap9396, fp9397, x9399, rfl, hF9400, F9401, F9402, F9403, F9404, F9405, F9406, G9407, D9408, D9409, D9410, D9411, hB, hZ⟩ hx9417
              refine Fr.goOn hF9400 (by kernel_rfl) ?_
              have hm := hx9417
              unfold m_spec_NearestJoins_s17 at hm
              refine cW_seq ?_
              refine cW_seq ?_
              refine cW_region ?_
              refine wS_pure 4 [(93, .bool (decide (x9399 < (((l6416).length : Int))))), (92, .int .i64 (((l6416).length : Int))), (91, .slice A6417 (l6416).length cap6418), (90, .int .i64 (x9399))] (by kernel_rfl) ?_
              refine wS_end (by rfl) ?_
              refine eX_then ?_
              refine cW_cond (t := decide (x9399 < (((l6416).length : Int)))) (by kernel_rfl) (fun hb9418 => ?_) (fun hb9418 => ?_)
              · have hm := condT hb9418 hm
                refine cW_skip ?_
                refine eX_then ?_
                refine cW_seq ?_
                refine cW_block ?_
                obtain ⟨s9472, hs9473, hm⟩ := bindE hm
                refine cW_cut (fun a' w' => ∃ l9455 : List (Int), ∃ A9456 : Option Addr, ∃ cap9457 : Nat, ∃ fp9458 : List Nat, l9455 = s9472 ∧ Fr 120 [(0, .slice A0 (l0).length cap0), (4, .slice A6411 (l6410).length cap6412), (5, .slice A6417 (l6416).length cap6418), (7, .slice A6439 (y6435.1).length cap6440), (9, .slice A8245 (l8244).length cap8246), (14, .slice A9456 (l9455).length cap9457), (15, .int .i64 (x9399))] a' ∧ Sl 2 encII w' fp0 A0 l0 ∧ OwR 1 encI 38 2 w' fp6413 fr6415 A6411 cap6412 l6410 ∧ Ow 1 encI 2 w' fp6419 A6417 cap6418 l6416 ∧ Ow 5 encIIIII 27 w' fp6441 A6439 cap6440 y6435.1 ∧ Ow 1 encI 2 w' fp8247 A8245 cap8246 l8244 ∧ Ow 1 encI 2 w' fp9458 A9456 cap9457 l9455 ∧ (∀ x ∈ fp9458, w0.heap.size ≤ x) ∧ Dj (fp6413 ++ fr6415) fp9458 ∧ Dj fp6419 fp9458 ∧ Dj fp6441 fp9458 ∧ Dj fp8247 fp9458 ∧ Chg [] w0 w' ∧ w0.heap.size ≤ w'.heap.size) ?_ ?_
                · have hm := hs9473
                  refine cW_seq ?_
                  refine cW_region ?_
                  refine wS_pure 3 [(98, .int .i64 (x9399)), (97, .slice A6417 (l6416).length cap6418), (96, .slice A8245 (l8244).length cap8246)] (by kernel_rfl) ?_
                  obtain ⟨x9474, hx9475, hm⟩ := bindE hm
                  refine wS_idx (d := 99) (T := 38) (A := A6417) (n := (l6416).length) (cap := cap6418) (kd := .i64) (m := x9399) (by kernel_rfl) sl38 ((F9403.sl encI_ok).is hx9475) ?_
                  refine wS_load1 (d := 100) (T := 2) (ad := (elA A6417 1 (x9399) 0)) (v := .int .i64 (x9474)) (by kernel_rfl) vt2 (Sl.cell (F9403.sl encI_ok) hx9475 0 (by rfl)) ?_
                  obtain ⟨y9476, hy9477, hm⟩ := bindE hm
                  refine wS_calls (d := 101) (f := 110) (vs := [.slice A8245 (l8244).length cap8246, .int .i64 (x9474)]) (by kernel_rfl) ent110 (c_spec_l00Has hy9477 (F9405.sl encI_ok)) ?_
                  rintro _ w9478 ⟨rfl, hc9479⟩
                  replace F9401 := F9401.chg hc9479 Dj.nil
                  replace F9402 := F9402.chg hc9479 Dj.nil
                  replace F9403 := F9403.chg hc9479 Dj.nil
                  replace F9404 := F9404.chg hc9479 Dj.nil
                  replace F9405 := F9405.chg hc9479 Dj.nil
                  replace F9406 := F9406.chg hc9479 Dj.nil
                  replace hB := hB.inS hc9479 inNil
                  replace hZ := Nat.le_trans hZ hc9479.size
                  refine ⟨.bool (y9476), rfl, ?_⟩
                  refine wS_pure 1 [(102, .bool (!y9476))] (by kernel_rfl) ?_
                  refine wS_end (by rfl) ?_
                  refine eX_then ?_
                  refine cW_cond (t := !y9476) (by kernel_rfl) (fun hb9480 => ?_) (fun hb9480 => ?_)
                  · have hm := condT hb9480 hm
                    refine cW_region ?_
                    refine wS_pure 3 [(105, .int .i64 (x9399)), (104, .slice A6417 (l6416).length cap6418), (103, .slice A9395 (l9394).length cap9396)] (by kernel_rfl) ?_
                    obtain ⟨x9481, hx9482, hm⟩ := bindE hm
                    refine wS_idx (d := 106) (T := 38) (A := A6417) (n := (l6416).length) (cap := cap6418) (kd := .i64) (m := x9399) (by kernel_rfl) sl38 ((F9403.sl encI_ok).is hx9482) ?_
                    refine wS_load1 (d := 107) (T := 2) (ad := (elA A6417 1 (x9399) 0)) (v := .int .i64 (x9481)) (by kernel_rfl) vt2 (Sl.cell (F9403.sl encI_ok) hx9482 0 (by rfl)) ?_
                    refine wS_bs (enc := encI) ([x9481] : List (Int)) [.int .i64 (x9481)] (d := 108) (t := 38) (T := 2) (n := 1) (ps := [(0, .int .i64 (x9481))]) (by kernel_rfl) el38 encI_ok (by rfl) (by omega) (by omega) (by kernel_rfl) (by rfl) ?_
                    intro b9483 w9484 G9485 F9486 hc9487
                    have D9489 : Dj (fp6413 ++ fr6415) [b9483] := Dj.of F9402.low (low1 G9485)
                    have D9490 : Dj fp6419 [b9483] := Dj.of F9403.low (low1 G9485)
                    have D9491 : Dj fp6441 [b9483] := Dj.of F9404.low (low1 G9485)
                    have D9492 : Dj fp8247 [b9483] := Dj.of F9405.low (low1 G9485)
                    have D9493 : Dj fp9397 [b9483] := Dj.of F9406.low (low1 G9485)
                    replace F9401 := F9401.chg hc9487 Dj.nil
                    replace F9402 := F9402.chg hc9487 Dj.nil
                    replace F9403 := F9403.chg hc9487 Dj.nil
                    replace F9404 := F9404.chg hc9487 Dj.nil
                    replace F9405 := F9405.chg hc9487 Dj.nil
                    replace F9406 := F9406.chg hc9487 Dj.nil
                    replace hB := hB.inS hc9487 inNil
                    replace G9485 := Nat.le_trans hZ G9485
                    replace G9485 := low1 G9485
                    replace hZ := Nat.le_trans hZ hc9487.size
                    obtain ⟨_, hk9494, hm⟩ := bindE hm
                    replace hk9494 := apE hk9494
                    refine wS_append (enc := encI) (l := (l9394 : List (Int))) (l2 := (([x9481] : List (Int)) : List (Int))) (d := 109) (t := 38) (T := 2) (A := A9395) (A2 := (some ⟨b9483, 0, none⟩)) (cap := cap9396) (cap2 := 1) (by kernel_rfl) el38 encI_ok F9406 (F9486.sl encI_ok) (by rfl) hk9494 ?_
                    intro w9495 fp9496 A9497 cap9498 F9499 hc9500 hp9501
                    have G9503 := low_ap G9407 hZ hp9501
                    have D9504 : Dj (fp6413 ++ fr6415) fp9496 := Dj.ap D9408 F9402.low hp9501
                    have D9505 : Dj fp6419 fp9496 := Dj.ap D9409 F9403.low hp9501
                    have D9506 : Dj fp6441 fp9496 := Dj.ap D9410 F9404.low hp9501
                    have D9507 : Dj fp8247 fp9496 := Dj.ap D9411 F9405.low hp9501
                    have D9508 : Dj [b9483] fp9496 := Dj.ap (D9493).symm F9486.low hp9501
                    replace F9401 := F9401.chg hc9500 (Dj.of L0 G9407)
                    replace F9402 := F9402.chg hc9500 D9408
                    replace F9403 := F9403.chg hc9500 D9409
                    replace F9404 := F9404.chg hc9500 D9410
                    replace F9405 := F9405.chg hc9500 D9411
                    replace F9486 := F9486.chg hc9500 (D9493).symm
                    replace hB := hB.inS hc9500 (inLow G9407)
                    replace hZ := Nat.le_trans hZ hc9500.size
                    refine wS_pure 1 [(14, .slice A9497 (l9394 ++ (([x9481] : List (Int)))).length cap9498)] (by kernel_rfl) ?_
                    refine wS_end (by rfl) ?_
                    have hq : (some (l9394 ++ (([x9481] : List (Int)))) : Option ((List (Int)))) = some _ := hm
                    replace hq := someE hq
                    subst hq
                    exact eX_J (fun hst => ⟨l9394 ++ (([x9481] : List (Int))), A9497, cap9498, fp9496, rfl, Fr.of hst (by kernel_rfl), F9401, F9402, F9403, F9404, F9405, F9499, G9503, D9504, D9505, D9506, D9507, hB, hZ⟩)
                  · have hm := condF hb9480 hm
                    refine cW_skip ?_
                    have hq : (some l9394 : Option ((List (Int)))) = some _ := hm
                    replace hq := someE hq
                    subst hq
                    exact eX_J (fun hst => ⟨l9394, A9395, cap9396, fp9397, rfl, Fr.of hst (by kernel_rfl), F9401, F9402, F9403, F9404, F9405, F9406, G9407, D9408, D9409, D9410, D9411, hB, hZ⟩)
                · rintro a' w9454 ⟨l9455, A9456, cap9457, fp9458, hJ, hF9460, F9461, F9462, F9463, F9464, F9465, F9466, G9467, D9468, D9469, D9470, D9471, hB, hZ⟩
                  subst hJ
                  refine Fr.goX hF9460 (by kernel_rfl) ?_
                  refine eX_block ?_
                  refine eX_then ?_
                  refine cW_region ?_
                  refine wS_pure 3 [(15, .int .i64 (wr (x9399 + 1))), (95, .int .i64 (wr (x9399 + 1))), (94, .int .i64 (x9399))] (by kernel_rfl) ?_
                  refine wS_end (by rfl) ?_
                  have hq : (some (Ctl.next ((l9455, wr (x9399 + 1)))) : Option (Ctl ((List (Int)) × Int) ((List (Int))))) = some _ := hm
                  replace hq := someE hq
                  subst hq
                  exact eX_next hx9417 (fun hst => ⟨l9455, A9456, cap9457, fp9458, wr (x9399 + 1), rfl, Fr.of hst (by kernel_rfl), F9461, F9462, F9463, F9464, F9465, F9466, G9467, D9468, D9469, D9470, D9471, hB, hZ⟩)
              · have hm := condF hb9418 hm
                refine cW_exit ?_
                refine eX_then_exit ?_
                have hq : (some (Ctl.out l9394) : Option (Ctl ((List (Int)) × Int) ((List (Int))))) = some _ := hm
                replace hq := someE hq
                subst hq
                refine eX_outX hx9417 (fun hr9509 => ?_)
                replace hr9509 := hr9509.symm
                subst hr9509
                refine eX_block_hit ?_
                exact eX_J (fun hst => ⟨l9394, A9395, cap9396, fp9397, rfl, Fr.of hst (by kernel_rfl), F9401, F9402, F9404, F9405, F9406, G9407, D9408, D9410, D9411, hB, hZ⟩)
            · rintro a' w9377 ⟨l9378, A9379, cap9380, fp9381, hJ, hF9383, F9384, F9385, F9386, F9387, F9388, G9389, D9390, D9391, D9392, hB, hZ⟩
              subst hJ
              refine Fr.goX hF9383 (by kernel_rfl) ?_
              refine eX_then ?_
              refine cW_seq ?_
              refine cW_region ?_
              refine wS_pure 3 [(112, .int .i64 (((y6435.1).length : Int))), (111, .slice A6439 (y6435.1).length cap6440), (110, .slice A9379 (l9378).length cap9380)] (by kernel_rfl) ?_
              refine wS_bs (enc := encI) ([((y6435.1).length : Int)] : List (Int)) [.int .i64 (((y6435.1).length : Int))] (d := 113) (t := 38) (T := 2) (n := 1) (ps := [(0, .int .i64 (((y6435.1).length : Int)))]) (by kernel_rfl) el38 encI_ok (by rfl) (by omega) (by omega) (by kernel_rfl) (by rfl) ?_
              intro b9510 w9511 G9512 F9513 hc9514
              have D9516 : Dj (fp6413 ++ fr6415) [b9510] := Dj.of F9385.low (low1 G9512)
              have D9517 : Dj fp6441 [b9510] := Dj.of F9386.low (low1 G9512)
              have D9518 : Dj fp8247 [b9510] := Dj.of F9387.low (low1 G9512)
              have D9519 : Dj fp9381 [b9510] := Dj.of F9388.low (low1 G9512)
              replace F9384 := F9384.chg hc9514 Dj.nil
              replace F9385 := F9385.chg hc9514 Dj.nil
              replace F9386 := F9386.chg hc9514 Dj.nil
              replace F9387 := F9387.chg hc9514 Dj.nil
              replace F9388 := F9388.chg hc9514 Dj.nil
              replace hB := hB.inS hc9514 inNil
              replace G9512 := Nat.le_trans hZ G9512
              replace G9512 := low1 G9512
              replace hZ := Nat.le_trans hZ hc9514.size
              obtain ⟨_, hk9520, hm⟩ := bindE hm
              replace hk9520 := apE hk9520
              refine wS_append (enc := encI) (l := (l9378 : List (Int))) (l2 := (([((y6435.1).length : Int)] : List (Int)) : List (Int))) (d := 114) (t := 38) (T := 2) (A := A9379) (A2 := (some ⟨b9510, 0, none⟩)) (cap := cap9380) (cap2 := 1) (by kernel_rfl) el38 encI_ok F9388 (F9513.sl encI_ok) (by rfl) hk9520 ?_
              intro w9521 fp9522 A9523 cap9524 F9525 hc9526 hp9527
              have G9529 := low_ap G9389 hZ hp9527
              have D9530 : Dj (fp6413 ++ fr6415) fp9522 := Dj.ap D9390 F9385.low hp9527
              have D9531 : Dj fp6441 fp9522 := Dj.ap D9391 F9386.low hp9527
              have D9532 : Dj fp8247 fp9522 := Dj.ap D9392 F9387.low hp9527
              have D9533 : Dj [b9510] fp9522 := Dj.ap (D9519).symm F9513.low hp9527
              replace F9384 := F9384.chg hc9526 (Dj.of L0 G9389)
              replace F9385 := F9385.chg hc9526 D9390
              replace F9386 := F9386.chg hc9526 D9391
              replace F9387 := F9387.chg hc9526 D9392
              replace F9513 := F9513.chg hc9526 (D9519).symm
              replace hB := hB.inS hc9526 (inLow G9389)
              replace hZ := Nat.le_trans hZ hc9526.size
              refine wS_pure 1 [(5, .slice A9523 (l9378 ++ (([((y6435.1).length : Int)] : List (Int)))).length cap9524)] (by kernel_rfl) ?_
              refine wS_end (by rfl) ?_
              refine eX_then ?_
              refine cW_region ?_
              refine wS_pure 2 [(116, .slice A8245 (l8244).length cap8246), (115, .slice A6411 (l6410).length cap6412)] (by kernel_rfl) ?_
              refine wS_row1 (k := 1) (enc := encI) (l := l8244) (d := 117) (t := 37) (T := 38) (B := A8245) (c := cap8246) (by kernel_rfl) el37 F9387 ?_
              intro b9534 w9535 G9536 F9537 hc9538
              have D9540 : Dj (fp6413 ++ fr6415) ([b9534] ++ fp8247) := Dj.app (Dj.of F9385.low (low1 G9536)) D8256
              have D9541 : Dj fp6441 ([b9534] ++ fp8247) := Dj.app (Dj.of F9386.low (low1 G9536)) D8258
              have D9542 : Dj [b9510] ([b9534] ++ fp8247) := Dj.app (Dj.of F9513.low (low1 G9536)) (D9518).symm
              have D9543 : Dj fp9522 ([b9534] ++ fp8247) := Dj.app (Dj.of F9525.low (low1 G9536)) (D9532).symm
              replace F9384 := F9384.chg hc9538 Dj.nil
              replace F9385 := F9385.chg hc9538 Dj.nil
              replace F9386 := F9386.chg hc9538 Dj.nil
              replace F9387 := F9387.chg hc9538 Dj.nil
              replace F9513 := F9513.chg hc9538 Dj.nil
              replace F9525 := F9525.chg hc9538 Dj.nil
              replace hB := hB.inS hc9538 inNil
              replace G9536 := Nat.le_trans hZ G9536
              replace G9536 := lowApp (low1 G9536) G8255
              replace hZ := Nat.le_trans hZ hc9538.size
              replace F9387 := (F9387.sl encI_ok)
              obtain ⟨_, hk9544, hm⟩ := bindE hm
              replace hk9544 := apE hk9544
              refine wS_appendR (k := 1) (enc := encI) (ll := (l6410 : List (List (Int)))) (ll2 := (([l8244] : List (List (Int))) : List (List (Int)))) (d := 118) (t := 37) (T := 38) (A := A6411) (A2 := (some ⟨b9534, 0, none⟩)) (cap := cap6412) (cap2 := 1) (by kernel_rfl) el37 F9385 F9537 (by rfl) D9540 hk9544 ?_
              intro w9545 fp9546 A9547 cap9548 F9549 hc9550 hp9551
              have G9553 := lowApp (low_ap (low_inl G6425) hZ hp9551) (lowApp (low_inr G6425) (low_inr G9536))
              have D9554 : Dj fp6441 (fp9546 ++ (fr6415 ++ fp8247)) := Dj.app (Dj.ap (Dj.inl (D6453).symm) F9386.low hp9551) (Dj.app (Dj.inr (D6453).symm) (Dj.inr D9541))
              have D9555 : Dj [b9510] (fp9546 ++ (fr6415 ++ fp8247)) := Dj.app (Dj.ap (Dj.inl (D9516).symm) F9513.low hp9551) (Dj.app (Dj.inr (D9516).symm) (Dj.inr D9542))
              have D9556 : Dj fp9522 (fp9546 ++ (fr6415 ++ fp8247)) := Dj.app (Dj.ap (Dj.inl (D9530).symm) F9525.low hp9551) (Dj.app (Dj.inr (D9530).symm) (Dj.inr D9543))
              replace F9384 := F9384.chg hc9550 (Dj.inl (Dj.of L0 G6425))
              replace F9386 := F9386.chg hc9550 (Dj.inl (D6453).symm)
              replace F9513 := F9513.chg hc9550 (Dj.inl (D9516).symm)
              replace F9525 := F9525.chg hc9550 (Dj.inl (D9530).symm)
              replace hB := hB.inS hc9550 (memS_inl (inLow G6425))
              replace hZ := Nat.le_trans hZ hc9550.size
              refine wS_pure 1 [(4, .slice A9547 (l6410 ++ (([l8244] : List (List (Int))))).length cap9548)] (by kernel_rfl) ?_
              refine wS_end (by rfl) ?_
              refine eX_block ?_
              have hq : (some (Ctl.next ((l6410 ++ (([l8244] : List (List (Int)))), l9378 ++ (([((y6435.1).length : Int)] : List (Int)))))) : Option (Ctl ((List (List (Int))) × (List (Int))) ((List (List (Int)))))) = some _ := hm
              replace hq := someE hq
              subst hq
              exact eX_next hx6433 (fun hst => ⟨l6410 ++ (([l8244] : List (List (Int)))), A9547, cap9548, fp9546, (fr6415 ++ fp8247), l9378 ++ (([((y6435.1).length : Int)] : List (Int))), A9523, cap9524, fp9522, rfl, Fr.of hst (by kernel_rfl), F9384, F9549, F9525, G9553, G9529, D9556, hB, hZ⟩)
        · have hm := condF hb6434 hm
          refine cW_exit ?_
          refine eX_then_exit ?_
          have hq : (some (Ctl.out l6410) : Option (Ctl ((List (List (Int))) × (List (Int))) ((List (List (Int)))))) = some _ := hm
          replace hq := someE hq
          subst hq
          refine eX_outX hx6433 (fun hr9557 => ?_)
          replace hr9557 := hr9557.symm
          subst hr9557
          refine eX_block_hit ?_
          exact eX_J (fun hst => ⟨l6410, A6411, cap6412, fp6413, fr6415, rfl, Fr.of hst (by kernel_rfl), F6423, G6425, hB, hZ⟩)
      · rintro a' w6399 ⟨l6400, A6401, cap6402, fp6403, fr6405, hJ, hF6406, F6407, G6408, hB, hZ⟩
        subst hJ
        refine Fr.goX hF6406 (by kernel_rfl) ?_
        refine eX_then ?_
        refine cW_seq ?_
        refine cW_region ?_
        refine wS_pure 3 [(3, .bool (true)), (2, .slice A6401 (l6400).length cap6402), (119, .slice A6401 (l6400).length cap6402)] (by kernel_rfl) ?_
        refine wS_end (by rfl) ?_
        refine eX_then ?_
        refine cW_ret ?_
        have hq : (some ((l6400, true)) : Option ((List (List (Int))) × (Bool))) = some _ := hm
        replace hq := someE hq
        subst hq
        refine eX_ret (vs := [.slice A6401 (l6400).length cap6402, .bool (true)]) [.tmp 2, .tmp 3] (by rfl) ⟨by (show lkE _ _ _ = _); kernel_rfl, ⟨by (show lkE _ _ _ = _); kernel_rfl, trivial⟩⟩ ?_
        exact ⟨A6401, cap6402, fp6403, fr6405, rfl, F6407, G6408, hB⟩

set_option maxRecDepth 100000 in
/-- laws.toPoint -/
theorem c_laws_toPoint {w0 : World} {p0_0 : Int} {p0_1 : Int} {r : (Int × Int)} (hm : m_laws_toPoint p0_0 p0_1 = some r)  :
    Calls Try.prog 111 #[.agg #[.int .i64 (p0_0), .int .i64 (p0_1)]] w0 fun e w' => e = .returned (.agg #[.int .i64 (r.1), .int .i64 (r.2)]) ∧ Chg [] w0 w' := by
  have hB : Chg [] w0 w0 := Chg.refl _ _
  have hZ := Nat.le_refl w0.heap.size
  unfold m_laws_toPoint at hm
  refine enterE (N := 11) Try.func111 (by rfl) Try.ntmps111 (by simp) [(0, .agg #[.int .i64 (p0_0), .int .i64 (p0_1)])] (by rfl) (by kernel_rfl) (fun a => ?_)
  refine cW_seq ?_
  refine cW_region ?_
  refine wS_box (d := 1) (T := 132) (x := .agg #[.int .i64 (p0_0), .int .i64 (p0_1)]) (by kernel_rfl) ?_
  intro b1 w2 G3 F4 hc5
  replace F4 : Cl w2 b1 132 [.int .i64 (p0_0), .int .i64 (p0_1)] := F4
  replace hB := hB.inS hc5 inNil
  replace G3 := Nat.le_trans hZ G3
  replace hZ := Nat.le_trans hZ hc5.size
  refine wS_alloc (d := 2) (T := 116) (z := .agg #[.int .i64 (0), .int .i64 (0)]) (by kernel_rfl) (by kernel_rfl) ?_
  intro b7 w8 G9 F10 hc11
  replace F10 : Cl w8 b7 116 [.int .i64 (0), .int .i64 (0)] := F10
  have D13 : Dj [b1] [b7] := Dj.of (lt1 F4.lt) (low1 G9)
  replace F4 := F4.chg hc11 notNil
  replace hB := hB.inS hc11 inNil
  replace G9 := Nat.le_trans hZ G9
  replace hZ := Nat.le_trans hZ hc11.size
  refine wS_end (by rfl) ?_
  refine eX_then ?_
  refine cW_seq ?_
  refine cW_region ?_
  refine wS_alloc (d := 3) (T := 116) (z := .agg #[.int .i64 (0), .int .i64 (0)]) (by kernel_rfl) (by kernel_rfl) ?_
  intro b14 w15 G16 F17 hc18
  replace F17 : Cl w15 b14 116 [.int .i64 (0), .int .i64 (0)] := F17
  have D20 : Dj [b1] [b14] := Dj.of (lt1 F4.lt) (low1 G16)
  have D21 : Dj [b7] [b14] := Dj.of (lt1 F10.lt) (low1 G16)
  replace F4 := F4.chg hc18 notNil
  replace F10 := F10.chg hc18 notNil
  replace hB := hB.inS hc18 inNil
  replace G16 := Nat.le_trans hZ G16
  replace hZ := Nat.le_trans hZ hc18.size
  refine wS_end (by rfl) ?_
  refine eX_then ?_
  refine cW_seq ?_
  refine cW_region ?_
  refine wS_pure 1 [(4, .pointer (some ⟨b1, 0, none⟩))] (by kernel_rfl) ?_
  refine wS_load1 (d := 5) (T := 2) (ad := ⟨b1, 0, none⟩) (v := .int .i64 (p0_0)) (by kernel_rfl) vt2 ((F4).cell 0) ?_
  refine wS_pure 1 [(6, .pointer (some ⟨b14, 0, none⟩))] (by kernel_rfl) ?_
  refine wS_store (T := 2) (g := b14) (o := 0) (ad := ⟨b14, 0, none⟩) (v := .int .i64 (p0_0)) (vs := [.int .i64 (p0_0)]) (by kernel_rfl) (by rfl) sz2 (by rfl) (by rfl) F17 (by simp only [List.length_cons, List.length_nil]; omega) ?_
  intro w22 F23 hc24
  replace F4 := F4.chg hc24 (dj1 D20)
  replace F10 := F10.chg hc24 (dj1 D21)
  replace hB := hB.inS hc24 (inLow (low1 G16))
  replace hZ := Nat.le_trans hZ hc24.size
  replace F23 : Cl w22 b14 116 [.int .i64 (p0_0), .int .i64 (0)] := F23
  clear F17
  refine wS_end (by rfl) ?_
  refine eX_then ?_
  refine cW_seq ?_
  refine cW_region ?_
  refine wS_pure 1 [(7, .pointer (some ⟨b1, 1, none⟩))] (by kernel_rfl) ?_
  refine wS_load1 (d := 8) (T := 2) (ad := ⟨b1, 1, none⟩) (v := .int .i64 (p0_1)) (by kernel_rfl) vt2 ((F4).cell 1) ?_
  refine wS_pure 1 [(9, .pointer (some ⟨b14, 1, none⟩))] (by kernel_rfl) ?_
  refine wS_store (T := 2) (g := b14) (o := 1) (ad := ⟨b14, 1, none⟩) (v := .int .i64 (p0_1)) (vs := [.int .i64 (p0_1)]) (by kernel_rfl) (by rfl) sz2 (by rfl) (by rfl) F23 (by simp only [List.length_cons, List.length_nil]; omega) ?_
  intro w25 F26 hc27
  replace F4 := F4.chg hc27 (dj1 D20)
  replace F10 := F10.chg hc27 (dj1 D21)
  replace hB := hB.inS hc27 (inLow (low1 G16))
  replace hZ := Nat.le_trans hZ hc27.size
  replace F26 : Cl w25 b14 116 [.int .i64 (p0_0), .int .i64 (p0_1)] := F26
  clear F23
  refine wS_end (by rfl) ?_
  refine eX_then ?_
  refine cW_seq ?_
  refine cW_region ?_
  refine wS_loadA (d := 10) (T := 116) (ad := ⟨b14, 0, none⟩) (vs := [.int .i64 (p0_0), .int .i64 (p0_1)]) (by kernel_rfl) vt116 (fun i u hu => box_cells F26 0 hu (by rfl)) ?_
  refine wS_store (T := 116) (g := b7) (o := 0) (ad := ⟨b7, 0, none⟩) (v := .agg #[.int .i64 (p0_0), .int .i64 (p0_1)]) (vs := [.int .i64 (p0_0), .int .i64 (p0_1)]) (by kernel_rfl) (by rfl) sz116 (by rfl) (by rfl) F10 (by simp only [List.length_cons, List.length_nil]; omega) ?_
  intro w28 F29 hc30
  replace F4 := F4.chg hc30 (dj1 D13)
  replace F26 := F26.chg hc30 (dj1 (D21).symm)
  replace hB := hB.inS hc30 (inLow (low1 G9))
  replace hZ := Nat.le_trans hZ hc30.size
  replace F29 : Cl w28 b7 116 [.int .i64 (p0_0), .int .i64 (p0_1)] := F29
  clear F10
  refine wS_end (by rfl) ?_
  refine eX_then ?_
  refine cW_ret ?_
  have hq : (some ((p0_0, p0_1)) : Option ((Int × Int))) = some _ := hm
  replace hq := someE hq
  subst hq
  refine eX_ret (vs := [.agg #[.int .i64 (p0_0), .int .i64 (p0_1)]]) [.cell 2 116] (by rfl) ⟨⟨⟨b7, 0, none⟩, by kernel_rfl, run_loadVarA (vs := [.int .i64 (p0_0), .int .i64 (p0_1)]) vt116 (fun i u hu => by exact box_cells F29 0 hu (by rfl))⟩, trivial⟩ ?_
  exact ⟨rfl, hB⟩

set_option maxRecDepth 100000 in
/-- laws.toPointS -/
theorem c_laws_toPointS {w0 : World} {l0 : List (Int × Int)} {A0 : Option Addr} {cap0 : Nat} {fp0 : List Nat} {r : (List (Int × Int))} (hm : m_laws_toPointS l0 = some r) (F0 : Sl 2 encII w0 fp0 A0 l0) :
    Calls Try.prog 55 #[.slice A0 (l0).length cap0] w0 fun e w' => ∃ A100 cap100 fp100, e = .returned (.slice A100 (r).length cap100) ∧ Ow 2 encII 116 w' fp100 A100 cap100 r ∧ (∀ x ∈ fp100, w0.heap.size ≤ x) ∧ Chg [] w0 w' := by
  have L0 := F0.low
  have hB : Chg [] w0 w0 := Chg.refl _ _
  have hZ := Nat.le_refl w0.heap.size
  unfold m_laws_toPointS at hm
  refine enterE (N := 23) Try.func55 (by rfl) Try.ntmps55 (by simp) [(0, .slice A0 (l0).length cap0)] (by rfl) (by kernel_rfl) (fun a => ?_)
  refine cW_seq ?_
  refine cW_region ?_
  refine wS_pure 1 [(2, .slice none 0 0)] (by kernel_rfl) ?_
  refine wS_end (by rfl) ?_
  refine eX_then ?_
  refine cW_seq ?_
  refine cW_region ?_
  refine wS_pure 2 [(6, .int .i64 (((l0).length : Int))), (5, .slice A0 (l0).length cap0)] (by kernel_rfl) ?_
  obtain ⟨_, hk2, hm⟩ := bindE hm
  replace hk2 := mkE hk2
  refine wS_make (enc := encII) (x0 := ((0, 0) : Int × Int)) (d := 7) (t := 58) (T := 116) (k1 := .i64) (k2 := .i64) (m := ((l0).length : Int)) (by kernel_rfl) el58 encII_ok (by rfl) hk2.1 hk2.2 ?_
  intro b3 w4 G5 F6 hc7
  replace F0 := F0.chg hc7 Dj.nil
  replace hB := hB.inS hc7 inNil
  replace G5 := Nat.le_trans hZ G5
  replace G5 := low1 G5
  replace hZ := Nat.le_trans hZ hc7.size
  refine wS_pure 1 [(3, .slice (some ⟨b3, 0, none⟩) (List.replicate (Int.toNat (((l0).length : Int))) (((0, 0) : Int × Int))).length (Int.toNat (((l0).length : Int))))] (by kernel_rfl) ?_
  refine wS_end (by rfl) ?_
  refine eX_then ?_
  refine cW_seq ?_
  refine cW_seq ?_
  refine cW_region ?_
  refine wS_pure 1 [(4, .int .i64 (0))] (by kernel_rfl) ?_
  refine wS_end (by rfl) ?_
  refine eX_then ?_
  obtain ⟨r51, hr52, hm⟩ := bindE hm
  have hm53 := hm
  refine cW_cut (fun a' w' => ∃ l42 : List (Int × Int), l42 = r51 ∧ Fr 23 [(3, .slice (some ⟨b3, 0, none⟩) (l42).length (Int.toNat (((l0).length : Int))))] a' ∧ Ow 2 encII 116 w' [b3] (some ⟨b3, 0, none⟩) (Int.toNat (((l0).length : Int))) l42 ∧ Chg [] w0 w' ∧ w0.heap.size ≤ w'.heap.size) ?_ ?_
  · refine cW_block ?_
    refine cW_loop _ (fun (s54 : Int × (List (Int × Int))) a' w' => ∃ x46 : Int, ∃ l47 : List (Int × Int), (x46, l47) = s54 ∧ Fr 23 [(0, .slice A0 (l0).length cap0), (3, .slice (some ⟨b3, 0, none⟩) (l47).length (Int.toNat (((l0).length : Int)))), (4, .int .i64 (x46))] a' ∧ Sl 2 encII w' fp0 A0 l0 ∧ Ow 2 encII 116 w' [b3] (some ⟨b3, 0, none⟩) (Int.toNat (((l0).length : Int))) l47 ∧ Chg [] w0 w' ∧ w0.heap.size ≤ w'.heap.size) hr52 (fun hst => ⟨0, List.replicate (Int.toNat (((l0).length : Int))) (((0, 0) : Int × Int)), rfl, Fr.of hst (by kernel_rfl), F0, F6, hB, hZ⟩) ?_
    rintro _ c55 a' w45 ⟨x46, l47, rfl, hF48, F49, F50, hB, hZ⟩ hx56
    refine Fr.goOn hF48 (by kernel_rfl) ?_
    have hm := hx56
    unfold m_laws_toPointS_s1 at hm
    refine cW_seq ?_
    refine cW_seq ?_
    refine cW_region ?_
    refine wS_pure 4 [(11, .bool (decide (x46 < (((l0).length : Int))))), (10, .int .i64 (((l0).length : Int))), (9, .slice A0 (l0).length cap0), (8, .int .i64 (x46))] (by kernel_rfl) ?_
    refine wS_end (by rfl) ?_
    refine eX_then ?_
    refine cW_cond (t := decide (x46 < (((l0).length : Int)))) (by kernel_rfl) (fun hb57 => ?_) (fun hb57 => ?_)
    · have hm := condT hb57 hm
      refine cW_skip ?_
      refine eX_then ?_
      refine cW_seq ?_
      refine cW_block ?_
      refine cW_region ?_
      refine wS_pure 4 [(17, .int .i64 (x46)), (16, .slice A0 (l0).length cap0), (15, .int .i64 (x46)), (14, .slice (some ⟨b3, 0, none⟩) (l47).length (Int.toNat (((l0).length : Int))))] (by kernel_rfl) ?_
      obtain ⟨x58, hx59, hm⟩ := bindE hm
      refine wS_idx (d := 18) (T := 76) (A := A0) (n := (l0).length) (cap := cap0) (kd := .i64) (m := x46) (by kernel_rfl) sl76 (F49.is hx59) ?_
      refine wS_loadA (d := 19) (T := 132) (ad := (elA A0 2 (x46) 0)) (vs := [.int .i64 (x58.1), .int .i64 (x58.2)]) (by kernel_rfl) vt132 (fun i u hu => Sl.cells_at F49 hx59 0 hu (by rfl)) ?_
      obtain ⟨y60, hy61, hm⟩ := bindE hm
      refine wS_calls (d := 20) (f := 111) (vs := [.agg #[.int .i64 (x58.1), .int .i64 (x58.2)]]) (by kernel_rfl) ent111 (c_laws_toPoint hy61) ?_
      rintro _ w62 ⟨rfl, hc63⟩
      replace F49 := F49.chg hc63 Dj.nil
      replace F50 := F50.chg hc63 Dj.nil
      replace hB := hB.inS hc63 inNil
      replace hZ := Nat.le_trans hZ hc63.size
      refine ⟨.agg #[.int .i64 (y60.1), .int .i64 (y60.2)], rfl, ?_⟩
      obtain ⟨x64, hx65, hm⟩ := bindE hm
      refine wS_idx (d := 21) (T := 58) (A := (some ⟨b3, 0, none⟩)) (n := (l47).length) (cap := (Int.toNat (((l0).length : Int)))) (kd := .i64) (m := x46) (by kernel_rfl) sl58 ((F50.sl encII_ok).is hx65) ?_
      refine wS_storeEl (x := x64) ((y60.1, y60.2)) (T := 116) (U := 116) (cap := (Int.toNat (((l0).length : Int)))) (j := 0) (A := (some ⟨b3, 0, none⟩)) (v := .agg #[.int .i64 (y60.1), .int .i64 (y60.2)]) (vs := [.int .i64 (y60.1), .int .i64 (y60.2)]) (m := x46) (by kernel_rfl) (by rfl) sz116 (by rfl) encII_ok F50 hx65 (by simp only [List.length_cons, List.length_nil]; omega) (by rfl) ?_
      intro w66 F67 hc68
      replace F49 := F49.chg hc68 (Dj.of L0 G5)
      replace hB := hB.inS hc68 (inLow G5)
      replace hZ := Nat.le_trans hZ hc68.size
      clear F50
      rewrite [show (l47).length = (l47.set (Int.toNat x46) ((y60.1, y60.2))).length from (List.length_set ..).symm]
      refine wS_end (by rfl) ?_
      refine eX_block ?_
      refine eX_then ?_
      refine cW_region ?_
      refine wS_pure 3 [(4, .int .i64 (wr (x46 + 1))), (13, .int .i64 (wr (x46 + 1))), (12, .int .i64 (x46))] (by kernel_rfl) ?_
      refine wS_end (by rfl) ?_
      have hq : (some (Ctl.next ((wr (x46 + 1), l47.set (Int.toNat x46) ((y60.1, y60.2))))) : Option (Ctl (Int × (List (Int × Int))) ((List (Int × Int))))) = some _ := hm
      replace hq := someE hq
      subst hq
      exact eX_next hx56 (fun hst => ⟨wr (x46 + 1), l47.set (Int.toNat x46) ((y60.1, y60.2)), rfl, Fr.of hst (by kernel_rfl), F49, F67, hB, hZ⟩)
    · have hm := condF hb57 hm
      refine cW_exit ?_
      refine eX_then_exit ?_
      have hq : (some (Ctl.out l47) : Option (Ctl (Int × (List (Int × Int))) ((List (Int × Int))))) = some _ := hm
      replace hq := someE hq
      subst hq
      refine eX_outX hx56 (fun hr69 => ?_)
      replace hr69 := hr69.symm
      subst hr69
      refine eX_block_hit ?_
      exact eX_J (fun hst => ⟨l47, rfl, Fr.of hst (by kernel_rfl), F50, hB, hZ⟩)
  · rintro a' w41 ⟨l42, hJ, hF43, F44, hB, hZ⟩
    subst hJ
    refine Fr.goX hF43 (by kernel_rfl) ?_
    refine eX_then ?_
    refine cW_seq ?_
    refine cW_region ?_
    refine wS_pure 2 [(2, .slice (some ⟨b3, 0, none⟩) (l42).length (Int.toNat (((l0).length : Int)))), (22, .slice (some ⟨b3, 0, none⟩) (l42).length (Int.toNat (((l0).length : Int))))] (by kernel_rfl) ?_
    refine wS_end (by rfl) ?_
    refine eX_then ?_
    refine cW_ret ?_
    have hq : (some l42 : Option ((List (Int × Int)))) = some _ := hm
    replace hq := someE hq
    subst hq
    refine eX_ret (vs := [.slice (some ⟨b3, 0, none⟩) (l42).length (Int.toNat (((l0).length : Int)))]) [.tmp 2] (by rfl) ⟨by (show lkE _ _ _ = _); kernel_rfl, trivial⟩ ?_
    exact ⟨(some ⟨b3, 0, none⟩), (Int.toNat (((l0).length : Int))), [b3], rfl, F44, G5, hB⟩

set_option maxRecDepth 100000 in
/-- laws.eqPoint -/
theorem c_laws_eqPoint {w0 : World} {p0_0 : Int} {p0_1 : Int} {p1_0 : Int} {p1_1 : Int} {r : (Bool)} (hm : m_laws_eqPoint p0_0 p0_1 p1_0 p1_1 = some r)  :
    Calls Try.prog 112 #[.agg #[.int .i64 (p0_0), .int .i64 (p0_1)], .agg #[.int .i64 (p1_0), .int .i64 (p1_1)]] w0 fun e w' => e = .returned (.bool (r)) ∧ Chg [] w0 w' := by
  have hB : Chg [] w0 w0 := Chg.refl _ _
  have hZ := Nat.le_refl w0.heap.size
  unfold m_laws_eqPoint at hm
  refine enterE (N := 15) Try.func112 (by rfl) Try.ntmps112 (by simp) [(0, .agg #[.int .i64 (p0_0), .int .i64 (p0_1)]), (1, .agg #[.int .i64 (p1_0), .int .i64 (p1_1)])] (by rfl) (by kernel_rfl) (fun a => ?_)
  refine cW_seq ?_
  refine cW_region ?_
  refine wS_box (d := 2) (T := 116) (x := .agg #[.int .i64 (p0_0), .int .i64 (p0_1)]) (by kernel_rfl) ?_
  intro b1 w2 G3 F4 hc5
  replace F4 : Cl w2 b1 116 [.int .i64 (p0_0), .int .i64 (p0_1)] := F4
  replace hB := hB.inS hc5 inNil
  replace G3 := Nat.le_trans hZ G3
  replace hZ := Nat.le_trans hZ hc5.size
  refine wS_box (d := 3) (T := 116) (x := .agg #[.int .i64 (p1_0), .int .i64 (p1_1)]) (by kernel_rfl) ?_
  intro b7 w8 G9 F10 hc11
  replace F10 : Cl w8 b7 116 [.int .i64 (p1_0), .int .i64 (p1_1)] := F10
  have D13 : Dj [b1] [b7] := Dj.of (lt1 F4.lt) (low1 G9)
  replace F4 := F4.chg hc11 notNil
  replace hB := hB.inS hc11 inNil
  replace G9 := Nat.le_trans hZ G9
  replace hZ := Nat.le_trans hZ hc11.size
  refine wS_pure 1 [(4, .bool (false))] (by kernel_rfl) ?_
  refine wS_end (by rfl) ?_
  refine eX_then ?_
  refine cW_seq ?_
  refine cW_seq ?_
  refine cW_region ?_
  refine wS_pure 1 [(5, .pointer (some ⟨b1, 0, none⟩))] (by kernel_rfl) ?_
  refine wS_load1 (d := 6) (T := 2) (ad := ⟨b1, 0, none⟩) (v := .int .i64 (p0_0)) (by kernel_rfl) vt2 ((F4).cell 0) ?_
  refine wS_pure 1 [(7, .pointer (some ⟨b7, 0, none⟩))] (by kernel_rfl) ?_
  refine wS_load1 (d := 8) (T := 2) (ad := ⟨b7, 0, none⟩) (v := .int .i64 (p1_0)) (by kernel_rfl) vt2 ((F10).cell 0) ?_
  refine wS_pure 1 [(9, .bool (p0_0 != p1_0))] (by kernel_rfl) ?_
  refine wS_end (by rfl) ?_
  refine eX_then ?_
  refine cW_cond (t := p0_0 != p1_0) (by kernel_rfl) (fun hb14 => ?_) (fun hb14 => ?_)
  · have hm := condT hb14 hm
    refine cW_seq ?_
    refine cW_region ?_
    refine wS_pure 1 [(4, .bool (false))] (by kernel_rfl) ?_
    refine wS_end (by rfl) ?_
    refine eX_then ?_
    refine cW_ret ?_
    refine eX_then_ret ?_
    have hq : (some false : Option ((Bool))) = some _ := hm
    replace hq := someE hq
    subst hq
    refine eX_ret (vs := [.bool (false)]) [.tmp 4] (by rfl) ⟨by (show lkE _ _ _ = _); kernel_rfl, trivial⟩ ?_
    exact ⟨rfl, hB⟩
  · have hm := condF hb14 hm
    refine cW_skip ?_
    refine eX_then ?_
    refine cW_seq ?_
    refine cW_seq ?_
    refine cW_region ?_
    refine wS_pure 1 [(10, .pointer (some ⟨b1, 1, none⟩))] (by kernel_rfl) ?_
    refine wS_load1 (d := 11) (T := 2) (ad := ⟨b1, 1, none⟩) (v := .int .i64 (p0_1)) (by kernel_rfl) vt2 ((F4).cell 1) ?_
    refine wS_pure 1 [(12, .pointer (some ⟨b7, 1, none⟩))] (by kernel_rfl) ?_
    refine wS_load1 (d := 13) (T := 2) (ad := ⟨b7, 1, none⟩) (v := .int .i64 (p1_1)) (by kernel_rfl) vt2 ((F10).cell 1) ?_
    refine wS_pure 1 [(14, .bool (p0_1 != p1_1))] (by kernel_rfl) ?_
    refine wS_end (by rfl) ?_
    refine eX_then ?_
    refine cW_cond (t := p0_1 != p1_1) (by kernel_rfl) (fun hb15 => ?_) (fun hb15 => ?_)
    · have hm := condT hb15 hm
      refine cW_seq ?_
      refine cW_region ?_
      refine wS_pure 1 [(4, .bool (false))] (by kernel_rfl) ?_
      refine wS_end (by rfl) ?_
      refine eX_then ?_
      refine cW_ret ?_
      refine eX_then_ret ?_
      have hq : (some false : Option ((Bool))) = some _ := hm
      replace hq := someE hq
      subst hq
      refine eX_ret (vs := [.bool (false)]) [.tmp 4] (by rfl) ⟨by (show lkE _ _ _ = _); kernel_rfl, trivial⟩ ?_
      exact ⟨rfl, hB⟩
    · have hm := condF hb15 hm
      refine cW_skip ?_
      refine eX_then ?_
      refine cW_seq ?_
      refine cW_region ?_
      refine wS_pure 1 [(4, .bool (true))] (by kernel_rfl) ?_
      refine wS_end (by rfl) ?_
      refine eX_then ?_
      refine cW_ret ?_
      have hq : (some true : Option ((Bool))) = some _ := hm
      replace hq := someE hq
      subst hq
      refine eX_ret (vs := [.bool (true)]) [.tmp 4] (by rfl) ⟨by (show lkE _ _ _ = _); kernel_rfl, trivial⟩ ?_
      exact ⟨rfl, hB⟩

set_option maxRecDepth 100000 in
/-- laws.eqPointS -/
theorem c_laws_eqPointS {w0 : World} {l0 : List (Int × Int)} {A0 : Option Addr} {cap0 : Nat} {fp0 : List Nat} {l1 : List (Int × Int)} {A1 : Option Addr} {cap1 : Nat} {fp1 : List Nat} {r : (Bool)} (hm : m_laws_eqPointS l0 l1 = some r) (F0 : Sl 2 encII w0 fp0 A0 l0) (F1 : Sl 2 encII w0 fp1 A1 l1) :
    Calls Try.prog 57 #[.slice A0 (l0).length cap0, .slice A1 (l1).length cap1] w0 fun e w' => e = .returned (.bool (r)) ∧ Chg [] w0 w' := by
  have L0 := F0.low
  have L1 := F1.low
  have hB : Chg [] w0 w0 := Chg.refl _ _
  have hZ := Nat.le_refl w0.heap.size
  unfold m_laws_eqPointS at hm
  refine enterE (N := 27) Try.func57 (by rfl) Try.ntmps57 (by simp) [(0, .slice A0 (l0).length cap0), (1, .slice A1 (l1).length cap1)] (by rfl) (by kernel_rfl) (fun a => ?_)
  refine cW_seq ?_
  refine cW_region ?_
  refine wS_pure 1 [(4, .bool (false))] (by kernel_rfl) ?_
  refine wS_end (by rfl) ?_
  refine eX_then ?_
  refine cW_seq ?_
  refine cW_seq ?_
  refine cW_region ?_
  refine wS_pure 5 [(10, .bool ((((l0).length : Int)) != (((l1).length : Int)))), (9, .int .i64 (((l1).length : Int))), (8, .slice A1 (l1).length cap1), (7, .int .i64 (((l0).length : Int))), (6, .slice A0 (l0).length cap0)] (by kernel_rfl) ?_
  refine wS_end (by rfl) ?_
  refine eX_then ?_
  refine cW_cond (t := (((l0).length : Int)) != (((l1).length : Int))) (by kernel_rfl) (fun hb3 => ?_) (fun hb3 => ?_)
  · have hm := condT hb3 hm
    refine cW_seq ?_
    refine cW_region ?_
    refine wS_pure 1 [(4, .bool (false))] (by kernel_rfl) ?_
    refine wS_end (by rfl) ?_
    refine eX_then ?_
    refine cW_ret ?_
    refine eX_then_ret ?_
    have hq : (some false : Option ((Bool))) = some _ := hm
    replace hq := someE hq
    subst hq
    refine eX_ret (vs := [.bool (false)]) [.tmp 4] (by rfl) ⟨by (show lkE _ _ _ = _); kernel_rfl, trivial⟩ ?_
    exact ⟨rfl, hB⟩
  · have hm := condF hb3 hm
    refine cW_skip ?_
    refine eX_then ?_
    refine cW_seq ?_
    refine cW_seq ?_
    refine cW_region ?_
    refine wS_pure 1 [(5, .int .i64 (0))] (by kernel_rfl) ?_
    refine wS_end (by rfl) ?_
    refine eX_then ?_
    obtain ⟨r70, hr71, hm⟩ := bindE hm
    have hm72 := hm
    refine cW_cut (fun a' w' => Sum.inl (()) = r70 ∧ Fr 27 [] a' ∧ Chg [] w0 w' ∧ w0.heap.size ≤ w'.heap.size) ?_ ?_
    · refine cW_block ?_
      refine cW_loop _ (fun (s73 : Int) a' w' => ∃ x66 : Int, x66 = s73 ∧ Fr 27 [(0, .slice A0 (l0).length cap0), (1, .slice A1 (l1).length cap1), (5, .int .i64 (x66))] a' ∧ Sl 2 encII w' fp0 A0 l0 ∧ Sl 2 encII w' fp1 A1 l1 ∧ Chg [] w0 w' ∧ w0.heap.size ≤ w'.heap.size) hr71 (fun hst => ⟨0, rfl, Fr.of hst (by kernel_rfl), F0, F1, hB, hZ⟩) ?_
      rintro _ c74 a' w65 ⟨x66, rfl, hF67, F68, F69, hB, hZ⟩ hx75
      refine Fr.goOn hF67 (by kernel_rfl) ?_
      have hm := hx75
      unfold m_laws_eqPointS_s1 at hm
      refine cW_seq ?_
      refine cW_seq ?_
      refine cW_region ?_
      refine wS_pure 4 [(14, .bool (decide (x66 < (((l0).length : Int))))), (13, .int .i64 (((l0).length : Int))), (12, .slice A0 (l0).length cap0), (11, .int .i64 (x66))] (by kernel_rfl) ?_
      refine wS_end (by rfl) ?_
      refine eX_then ?_
      refine cW_cond (t := decide (x66 < (((l0).length : Int)))) (by kernel_rfl) (fun hb76 => ?_) (fun hb76 => ?_)
      · have hm := condT hb76 hm
        refine cW_skip ?_
        refine eX_then ?_
        refine cW_seq ?_
        refine cW_block ?_
        refine cW_seq ?_
        refine cW_drawnTail [] 8 (by kernel_rfl) (by kernel_rfl) (fun w89 hc90 => ?_)
        replace F68 := F68.chg hc90 Dj.nil
        replace F69 := F69.chg hc90 Dj.nil
        replace hB := hB.inS hc90 inNil
        replace hZ := Nat.le_trans hZ hc90.size
        have hS := Chg.refl [] w89
        have Z91 := F68
        have Z92 := F69
        refine wH_take [0, 1] [1, 0] [(18, .int .i64 (x66)), (17, .slice A0 (l0).length cap0)] (by kernel_rfl) (qT (qT (qB (qT (qL (qB (qT (qT qZ)))))))) (by kernel_rfl) ?_
        obtain ⟨x93, hx94, hm⟩ := bindE hm
        refine wH_idx (i := 2) (d := 19) (T := 58) (A := A0) (n := (l0).length) (cap := cap0) (kd := .i64) (m := x66) (by kernel_rfl) (qT (qT (qB (qT (qL (qB (qT (qT qZ)))))))) (by kernel_rfl) (by kernel_rfl) sl58 (F68.is hx94) ?_
        refine wH_loadA (i := 3) (d := 20) (T := 116) (ad := (elA A0 2 (x66) 0)) (vs := [.int .i64 (x93.1), .int .i64 (x93.2)]) (by kernel_rfl) (qT (qT (qB (qT (qL (qB (qT (qT qZ)))))))) (by kernel_rfl) (by kernel_rfl) vt116 (fun W hW i u hu => Sl.cells_at (Z91.chg hW Dj.nil) hx94 0 hu (by rfl)) ?_
        refine wH_take [4, 5] [5, 4, 3, 2, 1, 0] [(22, .int .i64 (x66)), (21, .slice A1 (l1).length cap1)] (by kernel_rfl) (qT (qT (qB (qT (qL (qB (qT (qT qZ)))))))) (by kernel_rfl) ?_
        obtain ⟨x95, hx96, hm⟩ := bindE hm
        refine wH_idx (i := 6) (d := 23) (T := 58) (A := A1) (n := (l1).length) (cap := cap1) (kd := .i64) (m := x66) (by kernel_rfl) (qT (qT (qB (qT (qL (qB (qT (qT qZ)))))))) (by kernel_rfl) (by kernel_rfl) sl58 (F69.is hx96) ?_
        refine wH_loadA (i := 7) (d := 24) (T := 116) (ad := (elA A1 2 (x66) 0)) (vs := [.int .i64 (x95.1), .int .i64 (x95.2)]) (by kernel_rfl) (qT (qT (qB (qT (qL (qB (qT (qT qZ)))))))) (by kernel_rfl) (by kernel_rfl) vt116 (fun W hW i u hu => Sl.cells_at (Z92.chg hW Dj.nil) hx96 0 hu (by rfl)) ?_
        refine wH_done (by kernel_rfl) ?_
        refine eX_tail ?_
        obtain ⟨y97, hy98, hm⟩ := bindE hm
        refine wS_calls (d := 25) (f := 112) (vs := [.agg #[.int .i64 (x93.1), .int .i64 (x93.2)], .agg #[.int .i64 (x95.1), .int .i64 (x95.2)]]) (by kernel_rfl) ent112 (c_laws_eqPoint hy98) ?_
        rintro _ w99 ⟨rfl, hc100⟩
        replace F68 := F68.chg hc100 Dj.nil
        replace F69 := F69.chg hc100 Dj.nil
        replace hB := hB.inS hc100 inNil
        replace hZ := Nat.le_trans hZ hc100.size
        refine ⟨.bool (y97), rfl, ?_⟩
        refine wS_pure 1 [(26, .bool (!y97))] (by kernel_rfl) ?_
        refine wS_end (by rfl) ?_
        refine eX_then ?_
        refine cW_cond (t := !y97) (by kernel_rfl) (fun hb101 => ?_) (fun hb101 => ?_)
        · have hm := condT hb101 hm
          refine cW_seq ?_
          refine cW_region ?_
          refine wS_pure 1 [(4, .bool (false))] (by kernel_rfl) ?_
          refine wS_end (by rfl) ?_
          refine eX_then ?_
          refine cW_ret ?_
          refine eX_block_ret ?_
          refine eX_then_ret ?_
          have hq : (some (Ctl.out (Sum.inr false)) : Option (Ctl (Int) (Sum (Unit) ((Bool))))) = some _ := hm
          replace hq := someE hq
          subst hq
          refine eX_outR hx75 (fun hr => ?_)
          subst hr
          refine eX_block_ret ?_
          refine eX_then_ret ?_
          refine eX_then_ret ?_
          have hq : (some false : Option ((Bool))) = some _ := hm72
          replace hq := someE hq
          subst hq
          refine eX_ret (vs := [.bool (false)]) [.tmp 4] (by rfl) ⟨by (show lkE _ _ _ = _); kernel_rfl, trivial⟩ ?_
          exact ⟨rfl, hB⟩
        · have hm := condF hb101 hm
          refine cW_skip ?_
          refine eX_block ?_
          refine eX_then ?_
          refine cW_region ?_
          refine wS_pure 3 [(5, .int .i64 (wr (x66 + 1))), (16, .int .i64 (wr (x66 + 1))), (15, .int .i64 (x66))] (by kernel_rfl) ?_
          refine wS_end (by rfl) ?_
          have hq : (some (Ctl.next (wr (x66 + 1))) : Option (Ctl (Int) (Sum (Unit) ((Bool))))) = some _ := hm
          replace hq := someE hq
          subst hq
          exact eX_next hx75 (fun hst => ⟨wr (x66 + 1), rfl, Fr.of hst (by kernel_rfl), F68, F69, hB, hZ⟩)
      · have hm := condF hb76 hm
        refine cW_exit ?_
        refine eX_then_exit ?_
        have hq : (some (Ctl.out (Sum.inl (()))) : Option (Ctl (Int) (Sum (Unit) ((Bool))))) = some _ := hm
        replace hq := someE hq
        subst hq
        refine eX_outX hx75 (fun hr102 => ?_)
        replace hr102 := hr102.symm
        subst hr102
        refine eX_block_hit ?_
        exact eX_J (fun hst => ⟨rfl, Fr.of hst (by kernel_rfl), hB, hZ⟩)
    · rintro a' w63 ⟨hJ, hF64, hB, hZ⟩
      subst hJ
      refine Fr.goX hF64 (by kernel_rfl) ?_
      refine eX_then ?_
      refine cW_seq ?_
      refine cW_region ?_
      refine wS_pure 1 [(4, .bool (true))] (by kernel_rfl) ?_
      refine wS_end (by rfl) ?_
      refine eX_then ?_
      refine cW_ret ?_
      have hq : (some true : Option ((Bool))) = some _ := hm
      replace hq := someE hq
      subst hq
      refine eX_ret (vs := [.bool (true)]) [.tmp 4] (by rfl) ⟨by (show lkE _ _ _ = _); kernel_rfl, trivial⟩ ?_
      exact ⟨rfl, hB⟩

set_option maxRecDepth 100000 in
/-- laws.markPointS -/
theorem c_laws_markPointS {w0 : World} {l0 : List (Int × Int)} {A0 : Option Addr} {cap0 : Nat} {fp0 : List Nat} {p1 : Int} {r : (Int) × (List (Int × Int))} (hm : m_laws_markPointS l0 p1 = some r) (F0 : Ow 2 encII 116 w0 fp0 A0 cap0 l0) :
    Calls Try.prog 58 #[.slice A0 (l0).length cap0, .int .i64 (p1)] w0 fun e w' => e = .returned (.int .i64 (r.1)) ∧ Ow 2 encII 116 w' fp0 A0 cap0 r.2 ∧ (r.2).length = (l0).length ∧ Chg (fp0 ++ []) w0 w' := by
  have L0 := F0.low
  have hB : Chg (fp0 ++ []) w0 w0 := Chg.refl _ _
  have hZ := Nat.le_refl w0.heap.size
  unfold m_laws_markPointS at hm
  refine enterE (N := 27) Try.func58 (by rfl) Try.ntmps58 (by simp) [(0, .slice A0 (l0).length cap0), (1, .int .i64 (p1))] (by rfl) (by kernel_rfl) (fun a => ?_)
  refine cW_seq ?_
  refine cW_region ?_
  refine wS_pure 1 [(4, .int .i64 (0))] (by kernel_rfl) ?_
  refine wS_end (by rfl) ?_
  refine eX_then ?_
  refine cW_seq ?_
  refine cW_seq ?_
  refine cW_region ?_
  refine wS_pure 1 [(5, .int .i64 (0))] (by kernel_rfl) ?_
  refine wS_end (by rfl) ?_
  refine eX_then ?_
  obtain ⟨r49, hr50, hm⟩ := bindE hm
  have hm51 := hm
  refine cW_cut (fun a' w' => ∃ x37 : Int, ∃ l38 : List (Int × Int), (x37, l38) = r49 ∧ Fr 27 [(1, .int .i64 (x37))] a' ∧ Ow 2 encII 116 w' fp0 A0 cap0 l38 ∧ (l38).length = (l0).length ∧ Chg (fp0 ++ []) w0 w' ∧ w0.heap.size ≤ w'.heap.size) ?_ ?_
  · refine cW_block ?_
    refine cW_loop _ (fun (s52 : Int × Int × (List (Int × Int))) a' w' => ∃ x43 : Int, ∃ x44 : Int, ∃ l45 : List (Int × Int), (x43, x44, l45) = s52 ∧ Fr 27 [(0, .slice A0 (l45).length cap0), (1, .int .i64 (x43)), (5, .int .i64 (x44))] a' ∧ Ow 2 encII 116 w' fp0 A0 cap0 l45 ∧ (l45).length = (l0).length ∧ Chg (fp0 ++ []) w0 w' ∧ w0.heap.size ≤ w'.heap.size) hr50 (fun hst => ⟨p1, 0, l0, rfl, Fr.of hst (by kernel_rfl), F0, (Eq.refl (l0).length), hB, hZ⟩) ?_
    rintro _ c53 a' w42 ⟨x43, x44, l45, rfl, hF46, F47, hl48, hB, hZ⟩ hx54
    refine Fr.goOn hF46 (by kernel_rfl) ?_
    have hm := hx54
    unfold m_laws_markPointS_s1 at hm
    refine cW_seq ?_
    refine cW_seq ?_
    refine cW_region ?_
    refine wS_pure 4 [(9, .bool (decide (x44 < (((l45).length : Int))))), (8, .int .i64 (((l45).length : Int))), (7, .slice A0 (l45).length cap0), (6, .int .i64 (x44))] (by kernel_rfl) ?_
    refine wS_end (by rfl) ?_
    refine eX_then ?_
    refine cW_cond (t := decide (x44 < (((l45).length : Int)))) (by kernel_rfl) (fun hb55 => ?_) (fun hb55 => ?_)
    · have hm := condT hb55 hm
      refine cW_skip ?_
      refine eX_then ?_
      refine cW_seq ?_
      refine cW_block ?_
      refine cW_seq ?_
      refine cW_region ?_
      refine wS_pure 3 [(14, .int .i64 (x43)), (13, .int .i64 (x44)), (12, .slice A0 (l45).length cap0)] (by kernel_rfl) ?_
      obtain ⟨x56, hx57, hm⟩ := bindE hm
      refine wS_idx (d := 15) (T := 58) (A := A0) (n := (l45).length) (cap := cap0) (kd := .i64) (m := x44) (by kernel_rfl) sl58 ((F47.sl encII_ok).is hx57) ?_
      refine wS_pure 1 [(16, .pointer (some (elA A0 2 (x44) 0)))] (by kernel_rfl) ?_
      refine wS_storeEl (x := x56) ((x43, x56.2)) (T := 2) (U := 116) (cap := cap0) (j := 0) (A := A0) (v := .int .i64 (x43)) (vs := [.int .i64 (x43)]) (m := x44) (by kernel_rfl) (by rfl) sz2 (by rfl) encII_ok F47 hx57 (by simp only [List.length_cons, List.length_nil]; omega) (by rfl) ?_
      intro w58 F59 hc60
      replace hB := hB.inS hc60 (inMem (fun x hx => (List.mem_append_left _ hx)))
      replace hZ := Nat.le_trans hZ hc60.size
      clear F47
      have hl61 := (show (l45.set (Int.toNat x44) ((x43, x56.2))).length = (l45).length from List.length_set ..).trans hl48
      rewrite [show (l45).length = (l45.set (Int.toNat x44) ((x43, x56.2))).length from (List.length_set ..).symm]
      refine wS_end (by rfl) ?_
      refine eX_then ?_
      refine cW_seq ?_
      refine cW_region ?_
      refine wS_pure 3 [(1, .int .i64 (wr (x43 + 1))), (18, .int .i64 (wr (x43 + 1))), (17, .int .i64 (x43))] (by kernel_rfl) ?_
      refine wS_end (by rfl) ?_
      refine eX_then ?_
      refine cW_seq ?_
      refine cW_region ?_
      refine wS_pure 3 [(21, .int .i64 (wr (x43 + 1))), (20, .int .i64 (x44)), (19, .slice A0 (l45.set (Int.toNat x44) ((x43, x56.2))).length cap0)] (by kernel_rfl) ?_
      obtain ⟨x62, hx63, hm⟩ := bindE hm
      refine wS_idx (d := 22) (T := 58) (A := A0) (n := (l45.set (Int.toNat x44) ((x43, x56.2))).length) (cap := cap0) (kd := .i64) (m := x44) (by kernel_rfl) sl58 ((F59.sl encII_ok).is hx63) ?_
      refine wS_pure 1 [(23, .pointer (some (elA A0 2 (x44) 1)))] (by kernel_rfl) ?_
      refine wS_storeEl (x := x62) ((x62.1, wr (x43 + 1))) (T := 2) (U := 116) (cap := cap0) (j := 1) (A := A0) (v := .int .i64 (wr (x43 + 1))) (vs := [.int .i64 (wr (x43 + 1))]) (m := x44) (by kernel_rfl) (by rfl) sz2 (by rfl) encII_ok F59 hx63 (by simp only [List.length_cons, List.length_nil]; omega) (by rfl) ?_
      intro w64 F65 hc66
      replace hB := hB.inS hc66 (inMem (fun x hx => (List.mem_append_left _ hx)))
      replace hZ := Nat.le_trans hZ hc66.size
      clear F59
      have hl67 := (show ((l45.set (Int.toNat x44) ((x43, x56.2))).set (Int.toNat x44) ((x62.1, wr (x43 + 1)))).length = (l45.set (Int.toNat x44) ((x43, x56.2))).length from List.length_set ..).trans hl61
      rewrite [show (l45.set (Int.toNat x44) ((x43, x56.2))).length = ((l45.set (Int.toNat x44) ((x43, x56.2))).set (Int.toNat x44) ((x62.1, wr (x43 + 1)))).length from (List.length_set ..).symm]
      refine wS_end (by rfl) ?_
      refine eX_then ?_
      refine cW_region ?_
      refine wS_pure 3 [(1, .int .i64 (wr ((wr (x43 + 1)) + 1))), (25, .int .i64 (wr ((wr (x43 + 1)) + 1))), (24, .int .i64 (wr (x43 + 1)))] (by kernel_rfl) ?_
      refine wS_end (by rfl) ?_
      refine eX_block ?_
      refine eX_then ?_
      refine cW_region ?_
      refine wS_pure 3 [(5, .int .i64 (wr (x44 + 1))), (11, .int .i64 (wr (x44 + 1))), (10, .int .i64 (x44))] (by kernel_rfl) ?_
      refine wS_end (by rfl) ?_
      have hq : (some (Ctl.next ((wr ((wr (x43 + 1)) + 1), wr (x44 + 1), (l45.set (Int.toNat x44) ((x43, x56.2))).set (Int.toNat x44) ((x62.1, wr (x43 + 1)))))) : Option (Ctl (Int × Int × (List (Int × Int))) (Int × (List (Int × Int))))) = some _ := hm
      replace hq := someE hq
      subst hq
      exact eX_next hx54 (fun hst => ⟨wr ((wr (x43 + 1)) + 1), wr (x44 + 1), (l45.set (Int.toNat x44) ((x43, x56.2))).set (Int.toNat x44) ((x62.1, wr (x43 + 1))), rfl, Fr.of hst (by kernel_rfl), F65, hl67, hB, hZ⟩)
    · have hm := condF hb55 hm
      refine cW_exit ?_
      refine eX_then_exit ?_
      have hq : (some (Ctl.out ((x43, l45))) : Option (Ctl (Int × Int × (List (Int × Int))) (Int × (List (Int × Int))))) = some _ := hm
      replace hq := someE hq
      subst hq
      refine eX_outX hx54 (fun hr68 => ?_)
      replace hr68 := hr68.symm
      subst hr68
      refine eX_block_hit ?_
      exact eX_J (fun hst => ⟨x43, l45, rfl, Fr.of hst (by kernel_rfl), F47, hl48, hB, hZ⟩)
  · rintro a' w36 ⟨x37, l38, hJ, hF39, F40, hl41, hB, hZ⟩
    subst hJ
    refine Fr.goX hF39 (by kernel_rfl) ?_
    refine eX_then ?_
    refine cW_seq ?_
    refine cW_region ?_
    refine wS_pure 2 [(4, .int .i64 (x37)), (26, .int .i64 (x37))] (by kernel_rfl) ?_
    refine wS_end (by rfl) ?_
    refine eX_then ?_
    refine cW_ret ?_
    have hq : (some ((x37, l38)) : Option ((Int) × (List (Int × Int)))) = some _ := hm
    replace hq := someE hq
    subst hq
    refine eX_ret (vs := [.int .i64 (x37)]) [.tmp 4] (by rfl) ⟨by (show lkE _ _ _ = _); kernel_rfl, trivial⟩ ?_
    exact ⟨rfl, F40, hl41, hB⟩

set_option maxRecDepth 100000 in
/-- laws.markInt64S -/
theorem c_laws_markInt64S {w0 : World} {l0 : List (Int)} {A0 : Option Addr} {cap0 : Nat} {fp0 : List Nat} {p1 : Int} {r : (Int) × (List (Int))} (hm : m_laws_markInt64S l0 p1 = some r) (F0 : Ow 1 encI 2 w0 fp0 A0 cap0 l0) :
    Calls Try.prog 65 #[.slice A0 (l0).length cap0, .int .i64 (p1)] w0 fun e w' => e = .returned (.int .i64 (r.1)) ∧ Ow 1 encI 2 w' fp0 A0 cap0 r.2 ∧ (r.2).length = (l0).length ∧ Chg (fp0 ++ []) w0 w' := by
  have L0 := F0.low
  have hB : Chg (fp0 ++ []) w0 w0 := Chg.refl _ _
  have hZ := Nat.le_refl w0.heap.size
  unfold m_laws_markInt64S at hm
  refine enterE (N := 19) Try.func65 (by rfl) Try.ntmps65 (by simp) [(0, .slice A0 (l0).length cap0), (1, .int .i64 (p1))] (by rfl) (by kernel_rfl) (fun a => ?_)
  refine cW_seq ?_
  refine cW_region ?_
  refine wS_pure 1 [(4, .int .i64 (0))] (by kernel_rfl) ?_
  refine wS_end (by rfl) ?_
  refine eX_then ?_
  refine cW_seq ?_
  refine cW_seq ?_
  refine cW_region ?_
  refine wS_pure 1 [(5, .int .i64 (0))] (by kernel_rfl) ?_
  refine wS_end (by rfl) ?_
  refine eX_then ?_
  obtain ⟨r37, hr38, hm⟩ := bindE hm
  have hm39 := hm
  refine cW_cut (fun a' w' => ∃ x25 : Int, ∃ l26 : List (Int), (x25, l26) = r37 ∧ Fr 19 [(1, .int .i64 (x25))] a' ∧ Ow 1 encI 2 w' fp0 A0 cap0 l26 ∧ (l26).length = (l0).length ∧ Chg (fp0 ++ []) w0 w' ∧ w0.heap.size ≤ w'.heap.size) ?_ ?_
  · refine cW_block ?_
    refine cW_loop _ (fun (s40 : Int × Int × (List (Int))) a' w' => ∃ x31 : Int, ∃ x32 : Int, ∃ l33 : List (Int), (x31, x32, l33) = s40 ∧ Fr 19 [(0, .slice A0 (l33).length cap0), (1, .int .i64 (x31)), (5, .int .i64 (x32))] a' ∧ Ow 1 encI 2 w' fp0 A0 cap0 l33 ∧ (l33).length = (l0).length ∧ Chg (fp0 ++ []) w0 w' ∧ w0.heap.size ≤ w'.heap.size) hr38 (fun hst => ⟨p1, 0, l0, rfl, Fr.of hst (by kernel_rfl), F0, (Eq.refl (l0).length), hB, hZ⟩) ?_
    rintro _ c41 a' w30 ⟨x31, x32, l33, rfl, hF34, F35, hl36, hB, hZ⟩ hx42
    refine Fr.goOn hF34 (by kernel_rfl) ?_
    have hm := hx42
    unfold m_laws_markInt64S_s1 at hm
    refine cW_seq ?_
    refine cW_seq ?_
    refine cW_region ?_
    refine wS_pure 4 [(9, .bool (decide (x32 < (((l33).length : Int))))), (8, .int .i64 (((l33).length : Int))), (7, .slice A0 (l33).length cap0), (6, .int .i64 (x32))] (by kernel_rfl) ?_
    refine wS_end (by rfl) ?_
    refine eX_then ?_
    refine cW_cond (t := decide (x32 < (((l33).length : Int)))) (by kernel_rfl) (fun hb43 => ?_) (fun hb43 => ?_)
    · have hm := condT hb43 hm
      refine cW_skip ?_
      refine eX_then ?_
      refine cW_seq ?_
      refine cW_block ?_
      refine cW_seq ?_
      refine cW_region ?_
      refine wS_pure 3 [(14, .int .i64 (x31)), (13, .int .i64 (x32)), (12, .slice A0 (l33).length cap0)] (by kernel_rfl) ?_
      obtain ⟨x44, hx45, hm⟩ := bindE hm
      refine wS_idx (d := 15) (T := 38) (A := A0) (n := (l33).length) (cap := cap0) (kd := .i64) (m := x32) (by kernel_rfl) sl38 ((F35.sl encI_ok).is hx45) ?_
      refine wS_storeEl (x := x44) x31 (T := 2) (U := 2) (cap := cap0) (j := 0) (A := A0) (v := .int .i64 (x31)) (vs := [.int .i64 (x31)]) (m := x32) (by kernel_rfl) (by rfl) sz2 (by rfl) encI_ok F35 hx45 (by simp only [List.length_cons, List.length_nil]; omega) (by rfl) ?_
      intro w46 F47 hc48
      replace hB := hB.inS hc48 (inMem (fun x hx => (List.mem_append_left _ hx)))
      replace hZ := Nat.le_trans hZ hc48.size
      clear F35
      have hl49 := (show (l33.set (Int.toNat x32) x31).length = (l33).length from List.length_set ..).trans hl36
      rewrite [show (l33).length = (l33.set (Int.toNat x32) x31).length from (List.length_set ..).symm]
      refine wS_end (by rfl) ?_
      refine eX_then ?_
      refine cW_region ?_
      refine wS_pure 3 [(1, .int .i64 (wr (x31 + 1))), (17, .int .i64 (wr (x31 + 1))), (16, .int .i64 (x31))] (by kernel_rfl) ?_
      refine wS_end (by rfl) ?_
      refine eX_block ?_
      refine eX_then ?_
      refine cW_region ?_
      refine wS_pure 3 [(5, .int .i64 (wr (x32 + 1))), (11, .int .i64 (wr (x32 + 1))), (10, .int .i64 (x32))] (by kernel_rfl) ?_
      refine wS_end (by rfl) ?_
      have hq : (some (Ctl.next ((wr (x31 + 1), wr (x32 + 1), l33.set (Int.toNat x32) x31))) : Option (Ctl (Int × Int × (List (Int))) (Int × (List (Int))))) = some _ := hm
      replace hq := someE hq
      subst hq
      exact eX_next hx42 (fun hst => ⟨wr (x31 + 1), wr (x32 + 1), l33.set (Int.toNat x32) x31, rfl, Fr.of hst (by kernel_rfl), F47, hl49, hB, hZ⟩)
    · have hm := condF hb43 hm
      refine cW_exit ?_
      refine eX_then_exit ?_
      have hq : (some (Ctl.out ((x31, l33))) : Option (Ctl (Int × Int × (List (Int))) (Int × (List (Int))))) = some _ := hm
      replace hq := someE hq
      subst hq
      refine eX_outX hx42 (fun hr50 => ?_)
      replace hr50 := hr50.symm
      subst hr50
      refine eX_block_hit ?_
      exact eX_J (fun hst => ⟨x31, l33, rfl, Fr.of hst (by kernel_rfl), F35, hl36, hB, hZ⟩)
  · rintro a' w24 ⟨x25, l26, hJ, hF27, F28, hl29, hB, hZ⟩
    subst hJ
    refine Fr.goX hF27 (by kernel_rfl) ?_
    refine eX_then ?_
    refine cW_seq ?_
    refine cW_region ?_
    refine wS_pure 2 [(4, .int .i64 (x25)), (18, .int .i64 (x25))] (by kernel_rfl) ?_
    refine wS_end (by rfl) ?_
    refine eX_then ?_
    refine cW_ret ?_
    have hq : (some ((x25, l26)) : Option ((Int) × (List (Int)))) = some _ := hm
    replace hq := someE hq
    subst hq
    refine eX_ret (vs := [.int .i64 (x25)]) [.tmp 4] (by rfl) ⟨by (show lkE _ _ _ = _); kernel_rfl, trivial⟩ ?_
    exact ⟨rfl, F28, hl29, hB⟩

set_option maxRecDepth 100000 in
/-- laws.markInt64SS -/
theorem c_laws_markInt64SS {w0 : World} {l0 : List (List (Int))} {A0 : Option Addr} {cap0 : Nat} {fp0 fr0 : List Nat} {p1 : Int} {r : (Int) × (List (List (Int)))} (hm : m_laws_markInt64SS l0 p1 = some r) (F0 : OwR 1 encI 38 2 w0 fp0 fr0 A0 cap0 l0) :
    Calls Try.prog 59 #[.slice A0 (l0).length cap0, .int .i64 (p1)] w0 fun e w' => e = .returned (.int .i64 (r.1)) ∧ OwR 1 encI 38 2 w' fp0 fr0 A0 cap0 r.2 ∧ (r.2).length = (l0).length ∧ Chg ((fp0 ++ fr0) ++ []) w0 w' := by
  have L0 := F0.low
  have hB : Chg ((fp0 ++ fr0) ++ []) w0 w0 := Chg.refl _ _
  have hZ := Nat.le_refl w0.heap.size
  unfold m_laws_markInt64SS at hm
  refine enterE (N := 19) Try.func59 (by rfl) Try.ntmps59 (by simp) [(0, .slice A0 (l0).length cap0), (1, .int .i64 (p1))] (by rfl) (by kernel_rfl) (fun a => ?_)
  refine cW_seq ?_
  refine cW_region ?_
  refine wS_pure 1 [(4, .int .i64 (0))] (by kernel_rfl) ?_
  refine wS_end (by rfl) ?_
  refine eX_then ?_
  refine cW_seq ?_
  refine cW_seq ?_
  refine cW_region ?_
  refine wS_pure 1 [(5, .int .i64 (0))] (by kernel_rfl) ?_
  refine wS_end (by rfl) ?_
  refine eX_then ?_
  obtain ⟨r67, hr68, hm⟩ := bindE hm
  have hm69 := hm
  refine cW_cut (fun a' w' => ∃ x55 : Int, ∃ l56 : List (List (Int)), (x55, l56) = r67 ∧ Fr 19 [(1, .int .i64 (x55))] a' ∧ OwR 1 encI 38 2 w' fp0 fr0 A0 cap0 l56 ∧ (l56).length = (l0).length ∧ Chg ((fp0 ++ fr0) ++ []) w0 w' ∧ w0.heap.size ≤ w'.heap.size) ?_ ?_
  · refine cW_block ?_
    refine cW_loop _ (fun (s70 : Int × Int × (List (List (Int)))) a' w' => ∃ x61 : Int, ∃ x62 : Int, ∃ l63 : List (List (Int)), (x61, x62, l63) = s70 ∧ Fr 19 [(0, .slice A0 (l63).length cap0), (1, .int .i64 (x61)), (5, .int .i64 (x62))] a' ∧ OwR 1 encI 38 2 w' fp0 fr0 A0 cap0 l63 ∧ (l63).length = (l0).length ∧ Chg ((fp0 ++ fr0) ++ []) w0 w' ∧ w0.heap.size ≤ w'.heap.size) hr68 (fun hst => ⟨p1, 0, l0, rfl, Fr.of hst (by kernel_rfl), F0, (Eq.refl (l0).length), hB, hZ⟩) ?_
    rintro _ c71 a' w60 ⟨x61, x62, l63, rfl, hF64, F65, hl66, hB, hZ⟩ hx72
    refine Fr.goOn hF64 (by kernel_rfl) ?_
    have hm := hx72
    unfold m_laws_markInt64SS_s1 at hm
    refine cW_seq ?_
    refine cW_seq ?_
    refine cW_region ?_
    refine wS_pure 4 [(9, .bool (decide (x62 < (((l63).length : Int))))), (8, .int .i64 (((l63).length : Int))), (7, .slice A0 (l63).length cap0), (6, .int .i64 (x62))] (by kernel_rfl) ?_
    refine wS_end (by rfl) ?_
    refine eX_then ?_
    refine cW_cond (t := decide (x62 < (((l63).length : Int)))) (by kernel_rfl) (fun hb73 => ?_) (fun hb73 => ?_)
    · have hm := condT hb73 hm
      refine cW_skip ?_
      refine eX_then ?_
      refine cW_seq ?_
      refine cW_block ?_
      refine cW_region ?_
      refine wS_pure 2 [(13, .int .i64 (x62)), (12, .slice A0 (l63).length cap0)] (by kernel_rfl) ?_
      obtain ⟨x74, hx75, hm⟩ := bindE hm
      refine wS_idx (d := 14) (T := 37) (A := A0) (n := (l63).length) (cap := cap0) (kd := .i64) (m := x62) (by kernel_rfl) sl37 ((F65.slr encI_ok).is hx75) ?_
      obtain ⟨A76, cap77, fp81, hc79, hsub82, F78, hcl83⟩ := OwR.lend F65 hx75
      have Dm85 := (F65.dj).symm
      refine wS_load1 (d := 15) (T := 38) (ad := (elA A0 1 (x62) 0)) (v := .slice A76 (x74).length cap77) (by kernel_rfl) vt38 hc79 ?_
      refine wS_pure 1 [(16, .int .i64 (x61))] (by kernel_rfl) ?_
      obtain ⟨y86, hy87, hm⟩ := bindE hm
      refine wS_calls (d := 17) (f := 65) (vs := [.slice A76 (x74).length cap77, .int .i64 (x61)]) (by kernel_rfl) ent65 (c_laws_markInt64S hy87 F78) ?_
      rintro _ w88 ⟨rfl, F90, hl91, hc89⟩
      have F92 := hcl83 _ _ (hc89.more (fun x hx => by simpa using hx)) F90 hl91
      have hc93 := hc89.more (S' := (fp0 ++ fr0) ++ []) (fun x hx => List.mem_append_left _ (hsub82 x (by simpa using hx)))
      have hl94 := (show (l63.set (Int.toNat x62) y86.2).length = (l63).length from List.length_set ..).trans hl66
      clear F65
      replace hB := hB.inS hc93 (inApp (inMem (fun x hx => (List.mem_append_left _ hx))) inNil)
      replace hZ := Nat.le_trans hZ hc93.size
      refine ⟨.int .i64 (y86.1), rfl, ?_⟩
      rewrite [(show (l63).length = (l63.set (Int.toNat x62) y86.2).length from (List.length_set ..).symm)]
      refine wS_pure 1 [(1, .int .i64 (y86.1))] (by kernel_rfl) ?_
      refine wS_end (by rfl) ?_
      refine eX_block ?_
      refine eX_then ?_
      refine cW_region ?_
      refine wS_pure 3 [(5, .int .i64 (wr (x62 + 1))), (11, .int .i64 (wr (x62 + 1))), (10, .int .i64 (x62))] (by kernel_rfl) ?_
      refine wS_end (by rfl) ?_
      have hq : (some (Ctl.next ((y86.1, wr (x62 + 1), l63.set (Int.toNat x62) y86.2))) : Option (Ctl (Int × Int × (List (List (Int)))) (Int × (List (List (Int)))))) = some _ := hm
      replace hq := someE hq
      subst hq
      exact eX_next hx72 (fun hst => ⟨y86.1, wr (x62 + 1), l63.set (Int.toNat x62) y86.2, rfl, Fr.of hst (by kernel_rfl), F92, hl94, hB, hZ⟩)
    · have hm := condF hb73 hm
      refine cW_exit ?_
      refine eX_then_exit ?_
      have hq : (some (Ctl.out ((x61, l63))) : Option (Ctl (Int × Int × (List (List (Int)))) (Int × (List (List (Int)))))) = some _ := hm
      replace hq := someE hq
      subst hq
      refine eX_outX hx72 (fun hr95 => ?_)
      replace hr95 := hr95.symm
      subst hr95
      refine eX_block_hit ?_
      exact eX_J (fun hst => ⟨x61, l63, rfl, Fr.of hst (by kernel_rfl), F65, hl66, hB, hZ⟩)
  · rintro a' w54 ⟨x55, l56, hJ, hF57, F58, hl59, hB, hZ⟩
    subst hJ
    refine Fr.goX hF57 (by kernel_rfl) ?_
    refine eX_then ?_
    refine cW_seq ?_
    refine cW_region ?_
    refine wS_pure 2 [(4, .int .i64 (x55)), (18, .int .i64 (x55))] (by kernel_rfl) ?_
    refine wS_end (by rfl) ?_
    refine eX_then ?_
    refine cW_ret ?_
    have hq : (some ((x55, l56)) : Option ((Int) × (List (List (Int))))) = some _ := hm
    replace hq := someE hq
    subst hq
    refine eX_ret (vs := [.int .i64 (x55)]) [.tmp 4] (by rfl) ⟨by (show lkE _ _ _ = _); kernel_rfl, trivial⟩ ?_
    exact ⟨rfl, F58, hl59, hB⟩

set_option maxRecDepth 100000 in
/-- laws.heldInt64S -/
theorem c_laws_heldInt64S {w0 : World} {l0 : List (Int)} {A0 : Option Addr} {cap0 : Nat} {fp0 : List Nat} {p1 : Int} {r : (Int)} (hm : m_laws_heldInt64S l0 p1 = some r) (F0 : Sl 1 encI w0 fp0 A0 l0) :
    Calls Try.prog 66 #[.slice A0 (l0).length cap0, .int .i64 (p1)] w0 fun e w' => e = .returned (.int .i64 (r)) ∧ Chg [] w0 w' := by
  have L0 := F0.low
  have hB : Chg [] w0 w0 := Chg.refl _ _
  have hZ := Nat.le_refl w0.heap.size
  unfold m_laws_heldInt64S at hm
  refine enterE (N := 21) Try.func66 (by rfl) Try.ntmps66 (by simp) [(0, .slice A0 (l0).length cap0), (1, .int .i64 (p1))] (by rfl) (by kernel_rfl) (fun a => ?_)
  refine cW_seq ?_
  refine cW_region ?_
  refine wS_pure 1 [(4, .int .i64 (0))] (by kernel_rfl) ?_
  refine wS_end (by rfl) ?_
  refine eX_then ?_
  refine cW_seq ?_
  refine cW_seq ?_
  refine cW_region ?_
  refine wS_pure 1 [(5, .int .i64 (0))] (by kernel_rfl) ?_
  refine wS_end (by rfl) ?_
  refine eX_then ?_
  obtain ⟨r24, hr25, hm⟩ := bindE hm
  have hm26 := hm
  refine cW_cut (fun a' w' => ∃ x17 : Int, Sum.inl x17 = r24 ∧ Fr 21 [(1, .int .i64 (x17))] a' ∧ Chg [] w0 w' ∧ w0.heap.size ≤ w'.heap.size) ?_ ?_
  · refine cW_block ?_
    refine cW_loop _ (fun (s27 : Int × Int) a' w' => ∃ x20 : Int, ∃ x21 : Int, (x20, x21) = s27 ∧ Fr 21 [(0, .slice A0 (l0).length cap0), (1, .int .i64 (x20)), (5, .int .i64 (x21))] a' ∧ Sl 1 encI w' fp0 A0 l0 ∧ Chg [] w0 w' ∧ w0.heap.size ≤ w'.heap.size) hr25 (fun hst => ⟨p1, 0, rfl, Fr.of hst (by kernel_rfl), F0, hB, hZ⟩) ?_
    rintro _ c28 a' w19 ⟨x20, x21, rfl, hF22, F23, hB, hZ⟩ hx29
    refine Fr.goOn hF22 (by kernel_rfl) ?_
    have hm := hx29
    unfold m_laws_heldInt64S_s1 at hm
    refine cW_seq ?_
    refine cW_seq ?_
    refine cW_region ?_
    refine wS_pure 4 [(9, .bool (decide (x21 < (((l0).length : Int))))), (8, .int .i64 (((l0).length : Int))), (7, .slice A0 (l0).length cap0), (6, .int .i64 (x21))] (by kernel_rfl) ?_
    refine wS_end (by rfl) ?_
    refine eX_then ?_
    refine cW_cond (t := decide (x21 < (((l0).length : Int)))) (by kernel_rfl) (fun hb30 => ?_) (fun hb30 => ?_)
    · have hm := condT hb30 hm
      refine cW_skip ?_
      refine eX_then ?_
      refine cW_seq ?_
      refine cW_block ?_
      refine cW_seq ?_
      refine cW_seq ?_
      refine cW_region ?_
      refine wS_pure 2 [(13, .int .i64 (x21)), (12, .slice A0 (l0).length cap0)] (by kernel_rfl) ?_
      obtain ⟨x31, hx32, hm⟩ := bindE hm
      refine wS_idx (d := 14) (T := 38) (A := A0) (n := (l0).length) (cap := cap0) (kd := .i64) (m := x21) (by kernel_rfl) sl38 (F23.is hx32) ?_
      refine wS_load1 (d := 15) (T := 2) (ad := (elA A0 1 (x21) 0)) (v := .int .i64 (x31)) (by kernel_rfl) vt2 (Sl.cell F23 hx32 0 (by rfl)) ?_
      refine wS_pure 2 [(17, .bool (x31 != x20)), (16, .int .i64 (x20))] (by kernel_rfl) ?_
      refine wS_end (by rfl) ?_
      refine eX_then ?_
      refine cW_cond (t := x31 != x20) (by kernel_rfl) (fun hb33 => ?_) (fun hb33 => ?_)
      · have hm := condT hb33 hm
        refine cW_seq ?_
        refine cW_region ?_
        refine wS_pure 1 [(4, .int .i64 ((-1)))] (by kernel_rfl) ?_
        refine wS_end (by rfl) ?_
        refine eX_then ?_
        refine cW_ret ?_
        refine eX_then_ret ?_
        refine eX_block_ret ?_
        refine eX_then_ret ?_
        have hq : (some (Ctl.out (Sum.inr ((-1)))) : Option (Ctl (Int × Int) (Sum (Int) ((Int))))) = some _ := hm
        replace hq := someE hq
        subst hq
        refine eX_outR hx29 (fun hr => ?_)
        subst hr
        refine eX_block_ret ?_
        refine eX_then_ret ?_
        refine eX_then_ret ?_
        have hq : (some ((-1)) : Option ((Int))) = some _ := hm26
        replace hq := someE hq
        subst hq
        refine eX_ret (vs := [.int .i64 ((-1))]) [.tmp 4] (by rfl) ⟨by (show lkE _ _ _ = _); kernel_rfl, trivial⟩ ?_
        exact ⟨rfl, hB⟩
      · have hm := condF hb33 hm
        refine cW_skip ?_
        refine eX_then ?_
        refine cW_region ?_
        refine wS_pure 3 [(1, .int .i64 (wr (x20 + 1))), (19, .int .i64 (wr (x20 + 1))), (18, .int .i64 (x20))] (by kernel_rfl) ?_
        refine wS_end (by rfl) ?_
        refine eX_block ?_
        refine eX_then ?_
        refine cW_region ?_
        refine wS_pure 3 [(5, .int .i64 (wr (x21 + 1))), (11, .int .i64 (wr (x21 + 1))), (10, .int .i64 (x21))] (by kernel_rfl) ?_
        refine wS_end (by rfl) ?_
        have hq : (some (Ctl.next ((wr (x20 + 1), wr (x21 + 1)))) : Option (Ctl (Int × Int) (Sum (Int) ((Int))))) = some _ := hm
        replace hq := someE hq
        subst hq
        exact eX_next hx29 (fun hst => ⟨wr (x20 + 1), wr (x21 + 1), rfl, Fr.of hst (by kernel_rfl), F23, hB, hZ⟩)
    · have hm := condF hb30 hm
      refine cW_exit ?_
      refine eX_then_exit ?_
      have hq : (some (Ctl.out (Sum.inl x20)) : Option (Ctl (Int × Int) (Sum (Int) ((Int))))) = some _ := hm
      replace hq := someE hq
      subst hq
      refine eX_outX hx29 (fun hr34 => ?_)
      replace hr34 := hr34.symm
      subst hr34
      refine eX_block_hit ?_
      exact eX_J (fun hst => ⟨x20, rfl, Fr.of hst (by kernel_rfl), hB, hZ⟩)
  · rintro a' w16 ⟨x17, hJ, hF18, hB, hZ⟩
    subst hJ
    refine Fr.goX hF18 (by kernel_rfl) ?_
    refine eX_then ?_
    refine cW_seq ?_
    refine cW_region ?_
    refine wS_pure 2 [(4, .int .i64 (x17)), (20, .int .i64 (x17))] (by kernel_rfl) ?_
    refine wS_end (by rfl) ?_
    refine eX_then ?_
    refine cW_ret ?_
    have hq : (some x17 : Option ((Int))) = some _ := hm
    replace hq := someE hq
    subst hq
    refine eX_ret (vs := [.int .i64 (x17)]) [.tmp 4] (by rfl) ⟨by (show lkE _ _ _ = _); kernel_rfl, trivial⟩ ?_
    exact ⟨rfl, hB⟩

set_option maxRecDepth 100000 in
/-- laws.heldInt64SS -/
theorem c_laws_heldInt64SS {w0 : World} {l0 : List (List (Int))} {A0 : Option Addr} {cap0 : Nat} {fp0 : List Nat} {p1 : Int} {r : (Int)} (hm : m_laws_heldInt64SS l0 p1 = some r) (F0 : SlR 1 encI w0 fp0 A0 l0) :
    Calls Try.prog 60 #[.slice A0 (l0).length cap0, .int .i64 (p1)] w0 fun e w' => e = .returned (.int .i64 (r)) ∧ Chg [] w0 w' := by
  have L0 := F0.low
  have hB : Chg [] w0 w0 := Chg.refl _ _
  have hZ := Nat.le_refl w0.heap.size
  unfold m_laws_heldInt64SS at hm
  refine enterE (N := 21) Try.func60 (by rfl) Try.ntmps60 (by simp) [(0, .slice A0 (l0).length cap0), (1, .int .i64 (p1))] (by rfl) (by kernel_rfl) (fun a => ?_)
  refine cW_seq ?_
  refine cW_region ?_
  refine wS_pure 1 [(4, .int .i64 (0))] (by kernel_rfl) ?_
  refine wS_end (by rfl) ?_
  refine eX_then ?_
  refine cW_seq ?_
  refine cW_seq ?_
  refine cW_region ?_
  refine wS_pure 1 [(5, .int .i64 (0))] (by kernel_rfl) ?_
  refine wS_end (by rfl) ?_
  refine eX_then ?_
  obtain ⟨r44, hr45, hm⟩ := bindE hm
  have hm46 := hm
  refine cW_cut (fun a' w' => ∃ x37 : Int, Sum.inl x37 = r44 ∧ Fr 21 [(1, .int .i64 (x37))] a' ∧ Chg [] w0 w' ∧ w0.heap.size ≤ w'.heap.size) ?_ ?_
  · refine cW_block ?_
    refine cW_loop _ (fun (s47 : Int × Int) a' w' => ∃ x40 : Int, ∃ x41 : Int, (x40, x41) = s47 ∧ Fr 21 [(0, .slice A0 (l0).length cap0), (1, .int .i64 (x40)), (5, .int .i64 (x41))] a' ∧ SlR 1 encI w' fp0 A0 l0 ∧ Chg [] w0 w' ∧ w0.heap.size ≤ w'.heap.size) hr45 (fun hst => ⟨p1, 0, rfl, Fr.of hst (by kernel_rfl), F0, hB, hZ⟩) ?_
    rintro _ c48 a' w39 ⟨x40, x41, rfl, hF42, F43, hB, hZ⟩ hx49
    refine Fr.goOn hF42 (by kernel_rfl) ?_
    have hm := hx49
    unfold m_laws_heldInt64SS_s1 at hm
    refine cW_seq ?_
    refine cW_seq ?_
    refine cW_region ?_
    refine wS_pure 4 [(9, .bool (decide (x41 < (((l0).length : Int))))), (8, .int .i64 (((l0).length : Int))), (7, .slice A0 (l0).length cap0), (6, .int .i64 (x41))] (by kernel_rfl) ?_
    refine wS_end (by rfl) ?_
    refine eX_then ?_
    refine cW_cond (t := decide (x41 < (((l0).length : Int)))) (by kernel_rfl) (fun hb50 => ?_) (fun hb50 => ?_)
    · have hm := condT hb50 hm
      refine cW_skip ?_
      refine eX_then ?_
      refine cW_seq ?_
      refine cW_block ?_
      refine cW_seq ?_
      refine cW_region ?_
      refine wS_pure 2 [(13, .int .i64 (x41)), (12, .slice A0 (l0).length cap0)] (by kernel_rfl) ?_
      obtain ⟨x51, hx52, hm⟩ := bindE hm
      refine wS_idx (d := 14) (T := 37) (A := A0) (n := (l0).length) (cap := cap0) (kd := .i64) (m := x41) (by kernel_rfl) sl37 (F43.is hx52) ?_
      obtain ⟨A53, cap54, hc56, F55, K57⟩ := SlR.row F43 hx52
      refine wS_load1 (d := 15) (T := 38) (ad := (elA A0 1 (x41) 0)) (v := .slice A53 (x51).length cap54) (by kernel_rfl) vt38 hc56 ?_
      refine wS_pure 1 [(16, .int .i64 (x40))] (by kernel_rfl) ?_
      obtain ⟨y59, hy60, hm⟩ := bindE hm
      refine wS_calls (d := 17) (f := 66) (vs := [.slice A53 (x51).length cap54, .int .i64 (x40)]) (by kernel_rfl) ent66 (c_laws_heldInt64S hy60 F55) ?_
      rintro _ w61 ⟨rfl, hc62⟩
      replace F43 := F43.chg hc62 Dj.nil
      replace F55 := F55.chg hc62 Dj.nil
      replace hB := hB.inS hc62 inNil
      replace hZ := Nat.le_trans hZ hc62.size
      refine ⟨.int .i64 (y59), rfl, ?_⟩
      refine wS_pure 1 [(1, .int .i64 (y59))] (by kernel_rfl) ?_
      refine wS_end (by rfl) ?_
      refine eX_then ?_
      refine cW_seq ?_
      refine cW_region ?_
      refine wS_pure 2 [(19, .bool (decide (y59 < 0))), (18, .int .i64 (y59))] (by kernel_rfl) ?_
      refine wS_end (by rfl) ?_
      refine eX_then ?_
      refine cW_cond (t := decide (y59 < 0)) (by kernel_rfl) (fun hb63 => ?_) (fun hb63 => ?_)
      · have hm := condT hb63 hm
        refine cW_seq ?_
        refine cW_region ?_
        refine wS_pure 1 [(4, .int .i64 ((-1)))] (by kernel_rfl) ?_
        refine wS_end (by rfl) ?_
        refine eX_then ?_
        refine cW_ret ?_
        refine eX_block_ret ?_
        refine eX_then_ret ?_
        have hq : (some (Ctl.out (Sum.inr ((-1)))) : Option (Ctl (Int × Int) (Sum (Int) ((Int))))) = some _ := hm
        replace hq := someE hq
        subst hq
        refine eX_outR hx49 (fun hr => ?_)
        subst hr
        refine eX_block_ret ?_
        refine eX_then_ret ?_
        refine eX_then_ret ?_
        have hq : (some ((-1)) : Option ((Int))) = some _ := hm46
        replace hq := someE hq
        subst hq
        refine eX_ret (vs := [.int .i64 ((-1))]) [.tmp 4] (by rfl) ⟨by (show lkE _ _ _ = _); kernel_rfl, trivial⟩ ?_
        exact ⟨rfl, hB⟩
      · have hm := condF hb63 hm
        refine cW_skip ?_
        refine eX_block ?_
        refine eX_then ?_
        refine cW_region ?_
        refine wS_pure 3 [(5, .int .i64 (wr (x41 + 1))), (11, .int .i64 (wr (x41 + 1))), (10, .int .i64 (x41))] (by kernel_rfl) ?_
        refine wS_end (by rfl) ?_
        have hq : (some (Ctl.next ((y59, wr (x41 + 1)))) : Option (Ctl (Int × Int) (Sum (Int) ((Int))))) = some _ := hm
        replace hq := someE hq
        subst hq
        exact eX_next hx49 (fun hst => ⟨y59, wr (x41 + 1), rfl, Fr.of hst (by kernel_rfl), F43, hB, hZ⟩)
    · have hm := condF hb50 hm
      refine cW_exit ?_
      refine eX_then_exit ?_
      have hq : (some (Ctl.out (Sum.inl x40)) : Option (Ctl (Int × Int) (Sum (Int) ((Int))))) = some _ := hm
      replace hq := someE hq
      subst hq
      refine eX_outX hx49 (fun hr64 => ?_)
      replace hr64 := hr64.symm
      subst hr64
      refine eX_block_hit ?_
      exact eX_J (fun hst => ⟨x40, rfl, Fr.of hst (by kernel_rfl), hB, hZ⟩)
  · rintro a' w36 ⟨x37, hJ, hF38, hB, hZ⟩
    subst hJ
    refine Fr.goX hF38 (by kernel_rfl) ?_
    refine eX_then ?_
    refine cW_seq ?_
    refine cW_region ?_
    refine wS_pure 2 [(4, .int .i64 (x37)), (20, .int .i64 (x37))] (by kernel_rfl) ?_
    refine wS_end (by rfl) ?_
    refine eX_then ?_
    refine cW_ret ?_
    have hq : (some x37 : Option ((Int))) = some _ := hm
    replace hq := someE hq
    subst hq
    refine eX_ret (vs := [.int .i64 (x37)]) [.tmp 4] (by rfl) ⟨by (show lkE _ _ _ = _); kernel_rfl, trivial⟩ ?_
    exact ⟨rfl, hB⟩

end Go.Proofs.Ytajnjbmniobjhaa
