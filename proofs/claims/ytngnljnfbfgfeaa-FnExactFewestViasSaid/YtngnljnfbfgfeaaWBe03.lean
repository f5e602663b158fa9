/- Printed walks: spec.l07Cost, laws.eqInt64S, laws.eqInt64SS, laws.markInt64S, laws.markInt64SS, laws.heldInt64S, laws.szInt64S, laws.szInt64SS, laws.szWiring, spec.l00Own, spec.l07Cross, spec.l07All, spec.l07Best, spec.CountBest, laws.toInt64S, laws.toInt64SS, laws.toWiring. -/
import Derived.Test.YtngnljnfbfgfeaaProg
import Derived.Test.YtngnljnfbfgfeaaWBe02
set_option linter.unusedSimpArgs false
set_option linter.unusedVariables false
namespace Go.Proofs.Ytngnljnfbfgfeaa
open Go.RowKit
attribute [local irreducible] wS cW eX wH

theorem ent42 : Ent Try.prog 42 := fun _ => by kernel_rfl
theorem ent44 : Ent Try.prog 44 := fun _ => by kernel_rfl
theorem ent50 : Ent Try.prog 50 := fun _ => by kernel_rfl
theorem ent63 : Ent Try.prog 63 := fun _ => by kernel_rfl
theorem ent65 : Ent Try.prog 65 := fun _ => by kernel_rfl
theorem ent80 : Ent Try.prog 80 := fun _ => by kernel_rfl
theorem ent81 : Ent Try.prog 81 := fun _ => by kernel_rfl
theorem ent82 : Ent Try.prog 82 := fun _ => by kernel_rfl
theorem ent83 : Ent Try.prog 83 := fun _ => by kernel_rfl
theorem ent88 : Ent Try.prog 88 := fun _ => by kernel_rfl
theorem ent118 : Ent Try.prog 118 := fun _ => by kernel_rfl
theorem ent120 : Ent Try.prog 120 := fun _ => by kernel_rfl
theorem el24 : ElTy Try.prog 24 25 1 (.slice none 0 0) := ElTy.mk' Try.underlying24 (by kernel_rfl) (by rfl)
theorem sz24 : pureRun Try.prog (sizeOf 24) = some 1 := by kernel_rfl
theorem sz27 : pureRun Try.prog (sizeOf 27) = some 4 := by kernel_rfl

set_option maxRecDepth 100000 in
/-- spec.l07Cost -/
theorem c_spec_l07Cost_bimplWiring {w0 : World} {q0_0 : Int} {l0_1 : List (List (Int))} {A0_1 : Option Addr} {cap0_1 : Nat} {fp0_1 : List Nat} {l0_2 : List (List (Int))} {A0_2 : Option Addr} {cap0_2 : Nat} {fp0_2 : List Nat} {l0_3 : List (Int)} {A0_3 : Option Addr} {cap0_3 : Nat} {fp0_3 : List Nat} {b0 : Nat} {l1 : List (Int)} {A1 : Option Addr} {cap1 : Nat} {fp1 : List Nat} {r : (Int)} (hm : m_spec_l07Cost_bimplWiring q0_0 l0_1 l0_2 l0_3 l1 = some r) (F0_1 : SlR 1 encI w0 fp0_1 A0_1 l0_1) (F0_2 : SlR 1 encI w0 fp0_2 A0_2 l0_2) (F0_3 : Sl 1 encI w0 fp0_3 A0_3 l0_3) (F0 : Cl w0 b0 27 [.int .i64 (q0_0), .slice A0_1 (l0_1).length cap0_1, .slice A0_2 (l0_2).length cap0_2, .slice A0_3 (l0_3).length cap0_3]) (F1 : Sl 1 encI w0 fp1 A1 l1) :
    Calls Try.prog 65 #[.pointer (some ⟨b0, 0, none⟩), .slice A1 (l1).length cap1] w0 fun e w' => e = .returned (.int .i64 (r)) ∧ Chg [] w0 w' := by
  have L0_1 := F0_1.low
  have L0_2 := F0_2.low
  have L0_3 := F0_3.low
  have L0 := lt1 F0.lt
  have L1 := F1.low
  have hB : Chg [] w0 w0 := Chg.refl _ _
  have hZ := Nat.le_refl w0.heap.size
  unfold m_spec_l07Cost_bimplWiring at hm
  refine enterE (N := 53) Try.func65 (by rfl) Try.ntmps65 (by simp) [(0, .pointer (some ⟨b0, 0, none⟩)), (1, .slice A1 (l1).length cap1)] (by rfl) (by kernel_rfl) (fun a => ?_)
  refine cW_seq ?_
  refine cW_region ?_
  refine wS_pure 1 [(4, .int .i64 (0))] (by kernel_rfl) ?_
  refine wS_end (by rfl) ?_
  refine eX_then ?_
  refine cW_seq ?_
  refine cW_region ?_
  refine wS_pure 1 [(5, .int .i64 (0))] (by kernel_rfl) ?_
  refine wS_end (by rfl) ?_
  refine eX_then ?_
  refine cW_seq ?_
  refine cW_seq ?_
  refine cW_region ?_
  refine wS_pure 1 [(6, .int .i64 (0))] (by kernel_rfl) ?_
  refine wS_end (by rfl) ?_
  refine eX_then ?_
  obtain ⟨r350, hr351, hm⟩ := bindE hm
  have hm352 := hm
  refine cW_cut (fun a' w' => ∃ x339 : Int, x339 = r350 ∧ Fr 53 [(5, .int .i64 (x339))] a' ∧ Chg [] w0 w' ∧ w0.heap.size ≤ w'.heap.size) ?_ ?_
  · refine cW_block ?_
    refine cW_loop _ (fun (s353 : Int × Int) a' w' => ∃ x342 : Int, ∃ x343 : Int, (x342, x343) = s353 ∧ Fr 53 [(0, .pointer (some ⟨b0, 0, none⟩)), (1, .slice A1 (l1).length cap1), (5, .int .i64 (x342)), (6, .int .i64 (x343))] a' ∧ SlR 1 encI w' fp0_1 A0_1 l0_1 ∧ SlR 1 encI w' fp0_2 A0_2 l0_2 ∧ Sl 1 encI w' fp0_3 A0_3 l0_3 ∧ Cl w' b0 27 [.int .i64 (q0_0), .slice A0_1 (l0_1).length cap0_1, .slice A0_2 (l0_2).length cap0_2, .slice A0_3 (l0_3).length cap0_3] ∧ Sl 1 encI w' fp1 A1 l1 ∧ Chg [] w0 w' ∧ w0.heap.size ≤ w'.heap.size) hr351 (fun hst => ⟨0, 0, rfl, Fr.of hst (by kernel_rfl), F0_1, F0_2, F0_3, F0, F1, hB, hZ⟩) ?_
    rintro _ c354 a' w341 ⟨x342, x343, rfl, hF344, F345, F346, F347, F348, F349, hB, hZ⟩ hx355
    refine Fr.goOn hF344 (by kernel_rfl) ?_
    have hm := hx355
    unfold m_spec_l07Cost_bimplWiring_s1 at hm
    refine cW_seq ?_
    refine cW_seq ?_
    refine cW_region ?_
    refine wS_pure 4 [(10, .pointer (some ⟨b0, 2, none⟩)), (9, .pointer (some ⟨b0, 0, none⟩)), (8, .pointer (some ⟨b0, 0, none⟩)), (7, .int .i64 (x343))] (by kernel_rfl) ?_
    refine wS_load1 (d := 11) (T := 24) (ad := ⟨b0, 2, none⟩) (v := .slice A0_2 (l0_2).length cap0_2) (by kernel_rfl) vt24 ((F348).cell 2) ?_
    refine wS_pure 2 [(13, .bool (decide (x343 < (((l0_2).length : Int))))), (12, .int .i64 (((l0_2).length : Int)))] (by kernel_rfl) ?_
    refine wS_end (by rfl) ?_
    refine eX_then ?_
    refine cW_cond (t := decide (x343 < (((l0_2).length : Int)))) (by kernel_rfl) (fun hb356 => ?_) (fun hb356 => ?_)
    · have hm := condT hb356 hm
      refine cW_skip ?_
      refine eX_then ?_
      refine cW_seq ?_
      refine cW_block ?_
      obtain ⟨s439, hs440, hm⟩ := bindE hm
      refine cW_cut (fun a' w' => ∃ x432 : Int, x432 = s439 ∧ Fr 53 [(0, .pointer (some ⟨b0, 0, none⟩)), (1, .slice A1 (l1).length cap1), (5, .int .i64 (x432)), (6, .int .i64 (x343))] a' ∧ SlR 1 encI w' fp0_1 A0_1 l0_1 ∧ SlR 1 encI w' fp0_2 A0_2 l0_2 ∧ Sl 1 encI w' fp0_3 A0_3 l0_3 ∧ Cl w' b0 27 [.int .i64 (q0_0), .slice A0_1 (l0_1).length cap0_1, .slice A0_2 (l0_2).length cap0_2, .slice A0_3 (l0_3).length cap0_3] ∧ Sl 1 encI w' fp1 A1 l1 ∧ Chg [] w0 w' ∧ w0.heap.size ≤ w'.heap.size) ?_ ?_
      · have hm := hs440
        refine cW_seq ?_
        refine cW_drawnTail [] 24 (by kernel_rfl) (by kernel_rfl) (fun w472 hc473 => ?_)
        replace F345 := F345.chg hc473 Dj.nil
        replace F346 := F346.chg hc473 Dj.nil
        replace F347 := F347.chg hc473 Dj.nil
        replace F348 := F348.chg hc473 notNil
        replace F349 := F349.chg hc473 Dj.nil
        replace hB := hB.inS hc473 inNil
        replace hZ := Nat.le_trans hZ hc473.size
        have hS := Chg.refl [] w472
        have Z474 := F345
        have Z475 := F346
        have Z476 := F347
        have Z477 := F348
        have Z478 := F349
        refine wH_take [0, 1, 2, 3] [3, 2, 1, 0] [(19, .pointer (some ⟨b0, 2, none⟩)), (18, .pointer (some ⟨b0, 0, none⟩)), (17, .pointer (some ⟨b0, 0, none⟩)), (16, .slice A1 (l1).length cap1)] (by kernel_rfl) (qT (qT (qT (qB (qT (qL (qB (qT (qT qZ))))))))) (by kernel_rfl) ?_
        refine wH_load1 (i := 4) (d := 20) (T := 24) (ad := ⟨b0, 2, none⟩) (v := .slice A0_2 (l0_2).length cap0_2) (by kernel_rfl) (qT (qT (qT (qB (qT (qL (qB (qT (qT qZ))))))))) (by kernel_rfl) (by kernel_rfl) vt24 (fun W hW => (Z477.chg hW notNil).cell 2) ?_
        refine wH_take [5] [5, 4, 3, 2, 1, 0] [(21, .int .i64 (x343))] (by kernel_rfl) (qT (qT (qT (qB (qT (qL (qB (qT (qT qZ))))))))) (by kernel_rfl) ?_
        obtain ⟨x479, hx480, hm⟩ := bindE hm
        refine wH_idx (i := 6) (d := 22) (T := 24) (A := A0_2) (n := (l0_2).length) (cap := cap0_2) (kd := .i64) (m := x343) (by kernel_rfl) (qT (qT (qT (qB (qT (qL (qB (qT (qT qZ))))))))) (by kernel_rfl) (by kernel_rfl) sl24 (F346.is hx480) ?_
        obtain ⟨A481, cap482, hc484, F483, K485⟩ := SlR.row Z475 hx480
        refine wH_load1 (i := 7) (d := 23) (T := 25) (ad := (elA A0_2 1 (x343) 0)) (v := .slice A481 (x479).length cap482) (by kernel_rfl) (qT (qT (qT (qB (qT (qL (qB (qT (qT qZ))))))))) (by kernel_rfl) (by kernel_rfl) vt25 (fun W hW => hW.keep hc484) ?_
        obtain ⟨x487, hx488, hm⟩ := bindE hm
        refine wH_idx (i := 8) (d := 24) (T := 25) (A := A481) (n := (x479).length) (cap := cap482) (kd := .i64) (m := 0) (by kernel_rfl) (qT (qT (qT (qB (qT (qL (qB (qT (qT qZ))))))))) (by kernel_rfl) (by kernel_rfl) sl25 (F483.is hx488) ?_
        refine wH_load1 (i := 9) (d := 25) (T := 2) (ad := (elA A481 1 (0) 0)) (v := .int .i64 (x487)) (by kernel_rfl) (qT (qT (qT (qB (qT (qL (qB (qT (qT qZ))))))))) (by kernel_rfl) (by kernel_rfl) vt2 (fun W hW => Sl.cell (F483.chg hW Dj.nil) hx488 0 (by rfl)) ?_
        obtain ⟨x489, hx490, hm⟩ := bindE hm
        refine wH_idx (i := 10) (d := 26) (T := 25) (A := A1) (n := (l1).length) (cap := cap1) (kd := .i64) (m := x487) (by kernel_rfl) (qT (qT (qT (qB (qT (qL (qB (qT (qT qZ))))))))) (by kernel_rfl) (by kernel_rfl) sl25 (F349.is hx490) ?_
        refine wH_load1 (i := 11) (d := 27) (T := 2) (ad := (elA A1 1 (x487) 0)) (v := .int .i64 (x489)) (by kernel_rfl) (qT (qT (qT (qB (qT (qL (qB (qT (qT qZ))))))))) (by kernel_rfl) (by kernel_rfl) vt2 (fun W hW => Sl.cell (Z478.chg hW Dj.nil) hx490 0 (by rfl)) ?_
        refine wH_take [12, 13, 14, 15] [15, 14, 13, 12, 11, 10, 9, 8, 7, 6, 5, 4, 3, 2, 1, 0] [(31, .pointer (some ⟨b0, 2, none⟩)), (30, .pointer (some ⟨b0, 0, none⟩)), (29, .pointer (some ⟨b0, 0, none⟩)), (28, .slice A1 (l1).length cap1)] (by kernel_rfl) (qT (qT (qT (qB (qT (qL (qB (qT (qT qZ))))))))) (by kernel_rfl) ?_
        refine wH_load1 (i := 16) (d := 32) (T := 24) (ad := ⟨b0, 2, none⟩) (v := .slice A0_2 (l0_2).length cap0_2) (by kernel_rfl) (qT (qT (qT (qB (qT (qL (qB (qT (qT qZ))))))))) (by kernel_rfl) (by kernel_rfl) vt24 (fun W hW => (Z477.chg hW notNil).cell 2) ?_
        refine wH_take [17] [17, 16, 15, 14, 13, 12, 11, 10, 9, 8, 7, 6, 5, 4, 3, 2, 1, 0] [(33, .int .i64 (x343))] (by kernel_rfl) (qT (qT (qT (qB (qT (qL (qB (qT (qT qZ))))))))) (by kernel_rfl) ?_
        obtain ⟨x491, hx492, hm⟩ := bindE hm
        refine wH_idx (i := 18) (d := 34) (T := 24) (A := A0_2) (n := (l0_2).length) (cap := cap0_2) (kd := .i64) (m := x343) (by kernel_rfl) (qT (qT (qT (qB (qT (qL (qB (qT (qT qZ))))))))) (by kernel_rfl) (by kernel_rfl) sl24 (F346.is hx492) ?_
        obtain ⟨A493, cap494, hc496, F495, K497⟩ := SlR.row Z475 hx492
        refine wH_load1 (i := 19) (d := 35) (T := 25) (ad := (elA A0_2 1 (x343) 0)) (v := .slice A493 (x491).length cap494) (by kernel_rfl) (qT (qT (qT (qB (qT (qL (qB (qT (qT qZ))))))))) (by kernel_rfl) (by kernel_rfl) vt25 (fun W hW => hW.keep hc496) ?_
        obtain ⟨x499, hx500, hm⟩ := bindE hm
        refine wH_idx (i := 20) (d := 36) (T := 25) (A := A493) (n := (x491).length) (cap := cap494) (kd := .i64) (m := 1) (by kernel_rfl) (qT (qT (qT (qB (qT (qL (qB (qT (qT qZ))))))))) (by kernel_rfl) (by kernel_rfl) sl25 (F495.is hx500) ?_
        refine wH_load1 (i := 21) (d := 37) (T := 2) (ad := (elA A493 1 (1) 0)) (v := .int .i64 (x499)) (by kernel_rfl) (qT (qT (qT (qB (qT (qL (qB (qT (qT qZ))))))))) (by kernel_rfl) (by kernel_rfl) vt2 (fun W hW => Sl.cell (F495.chg hW Dj.nil) hx500 0 (by rfl)) ?_
        obtain ⟨x501, hx502, hm⟩ := bindE hm
        refine wH_idx (i := 22) (d := 38) (T := 25) (A := A1) (n := (l1).length) (cap := cap1) (kd := .i64) (m := x499) (by kernel_rfl) (qT (qT (qT (qB (qT (qL (qB (qT (qT qZ))))))))) (by kernel_rfl) (by kernel_rfl) sl25 (F349.is hx502) ?_
        refine wH_load1 (i := 23) (d := 39) (T := 2) (ad := (elA A1 1 (x499) 0)) (v := .int .i64 (x501)) (by kernel_rfl) (qT (qT (qT (qB (qT (qL (qB (qT (qT qZ))))))))) (by kernel_rfl) (by kernel_rfl) vt2 (fun W hW => Sl.cell (Z478.chg hW Dj.nil) hx502 0 (by rfl)) ?_
        refine wH_done (by kernel_rfl) ?_
        refine eX_tail ?_
        refine wS_pure 1 [(40, .bool (x489 != x501))] (by kernel_rfl) ?_
        refine wS_end (by rfl) ?_
        refine eX_then ?_
        refine cW_prune [(0, .pointer (some ⟨b0, 0, none⟩)), (1, .slice A1 (l1).length cap1), (5, .int .i64 (x342)), (6, .int .i64 (x343)), (40, .bool (x489 != x501))] (by kernel_rfl) (by kernel_rfl) (fun a503 => ?_)
        refine cW_cond (t := x489 != x501) (by kernel_rfl) (fun hb504 => ?_) (fun hb504 => ?_)
        · have hm := condT hb504 hm
          refine cW_region ?_
          refine wS_pure 4 [(44, .pointer (some ⟨b0, 2, none⟩)), (43, .pointer (some ⟨b0, 0, none⟩)), (42, .pointer (some ⟨b0, 0, none⟩)), (41, .int .i64 (x342))] (by kernel_rfl) ?_
          refine wS_load1 (d := 45) (T := 24) (ad := ⟨b0, 2, none⟩) (v := .slice A0_2 (l0_2).length cap0_2) (by kernel_rfl) vt24 ((F348).cell 2) ?_
          refine wS_pure 1 [(46, .int .i64 (x343))] (by kernel_rfl) ?_
          obtain ⟨x505, hx506, hm⟩ := bindE hm
          refine wS_idx (d := 47) (T := 24) (A := A0_2) (n := (l0_2).length) (cap := cap0_2) (kd := .i64) (m := x343) (by kernel_rfl) sl24 (F346.is hx506) ?_
          obtain ⟨A507, cap508, hc510, F509, K511⟩ := SlR.row F346 hx506
          refine wS_load1 (d := 48) (T := 25) (ad := (elA A0_2 1 (x343) 0)) (v := .slice A507 (x505).length cap508) (by kernel_rfl) vt25 hc510 ?_
          obtain ⟨x513, hx514, hm⟩ := bindE hm
          refine wS_idx (d := 49) (T := 25) (A := A507) (n := (x505).length) (cap := cap508) (kd := .i64) (m := 2) (by kernel_rfl) sl25 (F509.is hx514) ?_
          refine wS_load1 (d := 50) (T := 2) (ad := (elA A507 1 (2) 0)) (v := .int .i64 (x513)) (by kernel_rfl) vt2 (Sl.cell F509 hx514 0 (by rfl)) ?_
          refine wS_pure 2 [(5, .int .i64 (wr (x342 + x513))), (51, .int .i64 (wr (x342 + x513)))] (by kernel_rfl) ?_
          refine wS_end (by rfl) ?_
          have hq : (some (wr (x342 + x513)) : Option (Int)) = some _ := hm
          replace hq := someE hq
          subst hq
          exact eX_J (fun hst => ⟨wr (x342 + x513), rfl, Fr.of hst (by kernel_rfl), F345, F346, F347, F348, F349, hB, hZ⟩)
        · have hm := condF hb504 hm
          refine cW_skip ?_
          have hq : (some x342 : Option (Int)) = some _ := hm
          replace hq := someE hq
          subst hq
          exact eX_J (fun hst => ⟨x342, rfl, Fr.of hst (by kernel_rfl), F345, F346, F347, F348, F349, hB, hZ⟩)
      · rintro a' w431 ⟨x432, hJ, hF433, F434, F435, F436, F437, F438, hB, hZ⟩
        subst hJ
        refine Fr.goX hF433 (by kernel_rfl) ?_
        refine eX_block ?_
        refine eX_then ?_
        refine cW_region ?_
        refine wS_pure 3 [(6, .int .i64 (wr (x343 + 1))), (15, .int .i64 (wr (x343 + 1))), (14, .int .i64 (x343))] (by kernel_rfl) ?_
        refine wS_end (by rfl) ?_
        have hq : (some (Ctl.next ((x432, wr (x343 + 1)))) : Option (Ctl (Int × Int) (Int))) = some _ := hm
        replace hq := someE hq
        subst hq
        exact eX_next hx355 (fun hst => ⟨x432, wr (x343 + 1), rfl, Fr.of hst (by kernel_rfl), F434, F435, F436, F437, F438, hB, hZ⟩)
    · have hm := condF hb356 hm
      refine cW_exit ?_
      refine eX_then_exit ?_
      have hq : (some (Ctl.out x342) : Option (Ctl (Int × Int) (Int))) = some _ := hm
      replace hq := someE hq
      subst hq
      refine eX_outX hx355 (fun hr515 => ?_)
      replace hr515 := hr515.symm
      subst hr515
      refine eX_block_hit ?_
      exact eX_J (fun hst => ⟨x342, rfl, Fr.of hst (by kernel_rfl), hB, hZ⟩)
  · rintro a' w338 ⟨x339, hJ, hF340, hB, hZ⟩
    subst hJ
    refine Fr.goX hF340 (by kernel_rfl) ?_
    refine eX_then ?_
    refine cW_seq ?_
    refine cW_region ?_
    refine wS_pure 2 [(4, .int .i64 (x339)), (52, .int .i64 (x339))] (by kernel_rfl) ?_
    refine wS_end (by rfl) ?_
    refine eX_then ?_
    refine cW_ret ?_
    have hq : (some x339 : Option ((Int))) = some _ := hm
    replace hq := someE hq
    subst hq
    refine eX_ret (vs := [.int .i64 (x339)]) [.tmp 4] (by rfl) ⟨by (show lkE _ _ _ = _); kernel_rfl, trivial⟩ ?_
    exact ⟨rfl, hB⟩

set_option maxRecDepth 100000 in
/-- laws.eqInt64S -/
theorem c_laws_eqInt64S {w0 : World} {l0 : List (Int)} {A0 : Option Addr} {cap0 : Nat} {fp0 : List Nat} {l1 : List (Int)} {A1 : Option Addr} {cap1 : Nat} {fp1 : List Nat} {r : (Bool)} (hm : m_laws_eqInt64S l0 l1 = some r) (F0 : Sl 1 encI w0 fp0 A0 l0) (F1 : Sl 1 encI w0 fp1 A1 l1) :
    Calls Try.prog 42 #[.slice A0 (l0).length cap0, .slice A1 (l1).length cap1] w0 fun e w' => e = .returned (.bool (r)) ∧ Chg [] w0 w' := by
  have L0 := F0.low
  have L1 := F1.low
  have hB : Chg [] w0 w0 := Chg.refl _ _
  have hZ := Nat.le_refl w0.heap.size
  unfold m_laws_eqInt64S at hm
  refine enterE (N := 26) Try.func42 (by rfl) Try.ntmps42 (by simp) [(0, .slice A0 (l0).length cap0), (1, .slice A1 (l1).length cap1)] (by rfl) (by kernel_rfl) (fun a => ?_)
  refine cW_seq ?_
  refine cW_region ?_
  refine wS_pure 1 [(4, .bool (false))] (by kernel_rfl) ?_
  refine wS_end (by rfl) ?_
  refine eX_then ?_
  refine cW_seq ?_
  refine cW_seq ?_
  refine cW_region ?_
  refine wS_pure 5 [(10, .bool ((((l0).length : Int)) != (((l1).length : Int)))), (9, .int .i64 (((l1).length : Int))), (8, .slice A1 (l1).length cap1), (7, .int .i64 (((l0).length : Int))), (6, .slice A0 (l0).length cap0)] (by kernel_rfl) ?_
  refine wS_end (by rfl) ?_
  refine eX_then ?_
  refine cW_cond (t := (((l0).length : Int)) != (((l1).length : Int))) (by kernel_rfl) (fun hb3 => ?_) (fun hb3 => ?_)
  · have hm := condT hb3 hm
    refine cW_seq ?_
    refine cW_region ?_
    refine wS_pure 1 [(4, .bool (false))] (by kernel_rfl) ?_
    refine wS_end (by rfl) ?_
    refine eX_then ?_
    refine cW_ret ?_
    refine eX_then_ret ?_
    have hq : (some false : Option ((Bool))) = some _ := hm
    replace hq := someE hq
    subst hq
    refine eX_ret (vs := [.bool (false)]) [.tmp 4] (by rfl) ⟨by (show lkE _ _ _ = _); kernel_rfl, trivial⟩ ?_
    exact ⟨rfl, hB⟩
  · have hm := condF hb3 hm
    refine cW_skip ?_
    refine eX_then ?_
    refine cW_seq ?_
    refine cW_seq ?_
    refine cW_region ?_
    refine wS_pure 1 [(5, .int .i64 (0))] (by kernel_rfl) ?_
    refine wS_end (by rfl) ?_
    refine eX_then ?_
    obtain ⟨r54, hr55, hm⟩ := bindE hm
    have hm56 := hm
    refine cW_cut (fun a' w' => Sum.inl (()) = r54 ∧ Fr 26 [] a' ∧ Chg [] w0 w' ∧ w0.heap.size ≤ w'.heap.size) ?_ ?_
    · refine cW_block ?_
      refine cW_loop _ (fun (s57 : Int) a' w' => ∃ x50 : Int, x50 = s57 ∧ Fr 26 [(0, .slice A0 (l0).length cap0), (1, .slice A1 (l1).length cap1), (5, .int .i64 (x50))] a' ∧ Sl 1 encI w' fp0 A0 l0 ∧ Sl 1 encI w' fp1 A1 l1 ∧ Chg [] w0 w' ∧ w0.heap.size ≤ w'.heap.size) hr55 (fun hst => ⟨0, rfl, Fr.of hst (by kernel_rfl), F0, F1, hB, hZ⟩) ?_
      rintro _ c58 a' w49 ⟨x50, rfl, hF51, F52, F53, hB, hZ⟩ hx59
      refine Fr.goOn hF51 (by kernel_rfl) ?_
      have hm := hx59
      unfold m_laws_eqInt64S_s1 at hm
      refine cW_seq ?_
      refine cW_seq ?_
      refine cW_region ?_
      refine wS_pure 4 [(14, .bool (decide (x50 < (((l0).length : Int))))), (13, .int .i64 (((l0).length : Int))), (12, .slice A0 (l0).length cap0), (11, .int .i64 (x50))] (by kernel_rfl) ?_
      refine wS_end (by rfl) ?_
      refine eX_then ?_
      refine cW_cond (t := decide (x50 < (((l0).length : Int)))) (by kernel_rfl) (fun hb60 => ?_) (fun hb60 => ?_)
      · have hm := condT hb60 hm
        refine cW_skip ?_
        refine eX_then ?_
        refine cW_seq ?_
        refine cW_block ?_
        refine cW_seq ?_
        refine cW_drawnTail [] 8 (by kernel_rfl) (by kernel_rfl) (fun w69 hc70 => ?_)
        replace F52 := F52.chg hc70 Dj.nil
        replace F53 := F53.chg hc70 Dj.nil
        replace hB := hB.inS hc70 inNil
        replace hZ := Nat.le_trans hZ hc70.size
        have hS := Chg.refl [] w69
        have Z71 := F52
        have Z72 := F53
        refine wH_take [0, 1] [1, 0] [(18, .int .i64 (x50)), (17, .slice A0 (l0).length cap0)] (by kernel_rfl) (qT (qT (qB (qT (qL (qB (qT (qT qZ)))))))) (by kernel_rfl) ?_
        obtain ⟨x73, hx74, hm⟩ := bindE hm
        refine wH_idx (i := 2) (d := 19) (T := 25) (A := A0) (n := (l0).length) (cap := cap0) (kd := .i64) (m := x50) (by kernel_rfl) (qT (qT (qB (qT (qL (qB (qT (qT qZ)))))))) (by kernel_rfl) (by kernel_rfl) sl25 (F52.is hx74) ?_
        refine wH_load1 (i := 3) (d := 20) (T := 2) (ad := (elA A0 1 (x50) 0)) (v := .int .i64 (x73)) (by kernel_rfl) (qT (qT (qB (qT (qL (qB (qT (qT qZ)))))))) (by kernel_rfl) (by kernel_rfl) vt2 (fun W hW => Sl.cell (Z71.chg hW Dj.nil) hx74 0 (by rfl)) ?_
        refine wH_take [4, 5] [5, 4, 3, 2, 1, 0] [(22, .int .i64 (x50)), (21, .slice A1 (l1).length cap1)] (by kernel_rfl) (qT (qT (qB (qT (qL (qB (qT (qT qZ)))))))) (by kernel_rfl) ?_
        obtain ⟨x75, hx76, hm⟩ := bindE hm
        refine wH_idx (i := 6) (d := 23) (T := 25) (A := A1) (n := (l1).length) (cap := cap1) (kd := .i64) (m := x50) (by kernel_rfl) (qT (qT (qB (qT (qL (qB (qT (qT qZ)))))))) (by kernel_rfl) (by kernel_rfl) sl25 (F53.is hx76) ?_
        refine wH_load1 (i := 7) (d := 24) (T := 2) (ad := (elA A1 1 (x50) 0)) (v := .int .i64 (x75)) (by kernel_rfl) (qT (qT (qB (qT (qL (qB (qT (qT qZ)))))))) (by kernel_rfl) (by kernel_rfl) vt2 (fun W hW => Sl.cell (Z72.chg hW Dj.nil) hx76 0 (by rfl)) ?_
        refine wH_done (by kernel_rfl) ?_
        refine eX_tail ?_
        refine wS_pure 1 [(25, .bool (x73 != x75))] (by kernel_rfl) ?_
        refine wS_end (by rfl) ?_
        refine eX_then ?_
        refine cW_cond (t := x73 != x75) (by kernel_rfl) (fun hb77 => ?_) (fun hb77 => ?_)
        · have hm := condT hb77 hm
          refine cW_seq ?_
          refine cW_region ?_
          refine wS_pure 1 [(4, .bool (false))] (by kernel_rfl) ?_
          refine wS_end (by rfl) ?_
          refine eX_then ?_
          refine cW_ret ?_
          refine eX_block_ret ?_
          refine eX_then_ret ?_
          have hq : (some (Ctl.out (Sum.inr false)) : Option (Ctl (Int) (Sum (Unit) ((Bool))))) = some _ := hm
          replace hq := someE hq
          subst hq
          refine eX_outR hx59 (fun hr => ?_)
          subst hr
          refine eX_block_ret ?_
          refine eX_then_ret ?_
          refine eX_then_ret ?_
          have hq : (some false : Option ((Bool))) = some _ := hm56
          replace hq := someE hq
          subst hq
          refine eX_ret (vs := [.bool (false)]) [.tmp 4] (by rfl) ⟨by (show lkE _ _ _ = _); kernel_rfl, trivial⟩ ?_
          exact ⟨rfl, hB⟩
        · have hm := condF hb77 hm
          refine cW_skip ?_
          refine eX_block ?_
          refine eX_then ?_
          refine cW_region ?_
          refine wS_pure 3 [(5, .int .i64 (wr (x50 + 1))), (16, .int .i64 (wr (x50 + 1))), (15, .int .i64 (x50))] (by kernel_rfl) ?_
          refine wS_end (by rfl) ?_
          have hq : (some (Ctl.next (wr (x50 + 1))) : Option (Ctl (Int) (Sum (Unit) ((Bool))))) = some _ := hm
          replace hq := someE hq
          subst hq
          exact eX_next hx59 (fun hst => ⟨wr (x50 + 1), rfl, Fr.of hst (by kernel_rfl), F52, F53, hB, hZ⟩)
      · have hm := condF hb60 hm
        refine cW_exit ?_
        refine eX_then_exit ?_
        have hq : (some (Ctl.out (Sum.inl (()))) : Option (Ctl (Int) (Sum (Unit) ((Bool))))) = some _ := hm
        replace hq := someE hq
        subst hq
        refine eX_outX hx59 (fun hr78 => ?_)
        replace hr78 := hr78.symm
        subst hr78
        refine eX_block_hit ?_
        exact eX_J (fun hst => ⟨rfl, Fr.of hst (by kernel_rfl), hB, hZ⟩)
    · rintro a' w47 ⟨hJ, hF48, hB, hZ⟩
      subst hJ
      refine Fr.goX hF48 (by kernel_rfl) ?_
      refine eX_then ?_
      refine cW_seq ?_
      refine cW_region ?_
      refine wS_pure 1 [(4, .bool (true))] (by kernel_rfl) ?_
      refine wS_end (by rfl) ?_
      refine eX_then ?_
      refine cW_ret ?_
      have hq : (some true : Option ((Bool))) = some _ := hm
      replace hq := someE hq
      subst hq
      refine eX_ret (vs := [.bool (true)]) [.tmp 4] (by rfl) ⟨by (show lkE _ _ _ = _); kernel_rfl, trivial⟩ ?_
      exact ⟨rfl, hB⟩

set_option maxRecDepth 100000 in
/-- laws.eqInt64SS -/
theorem c_laws_eqInt64SS {w0 : World} {l0 : List (List (Int))} {A0 : Option Addr} {cap0 : Nat} {fp0 : List Nat} {l1 : List (List (Int))} {A1 : Option Addr} {cap1 : Nat} {fp1 : List Nat} {r : (Bool)} (hm : m_laws_eqInt64SS l0 l1 = some r) (F0 : SlR 1 encI w0 fp0 A0 l0) (F1 : SlR 1 encI w0 fp1 A1 l1) :
    Calls Try.prog 32 #[.slice A0 (l0).length cap0, .slice A1 (l1).length cap1] w0 fun e w' => e = .returned (.bool (r)) ∧ Chg [] w0 w' := by
  have L0 := F0.low
  have L1 := F1.low
  have hB : Chg [] w0 w0 := Chg.refl _ _
  have hZ := Nat.le_refl w0.heap.size
  unfold m_laws_eqInt64SS at hm
  refine enterE (N := 27) Try.func32 (by rfl) Try.ntmps32 (by simp) [(0, .slice A0 (l0).length cap0), (1, .slice A1 (l1).length cap1)] (by rfl) (by kernel_rfl) (fun a => ?_)
  refine cW_seq ?_
  refine cW_region ?_
  refine wS_pure 1 [(4, .bool (false))] (by kernel_rfl) ?_
  refine wS_end (by rfl) ?_
  refine eX_then ?_
  refine cW_seq ?_
  refine cW_seq ?_
  refine cW_region ?_
  refine wS_pure 5 [(10, .bool ((((l0).length : Int)) != (((l1).length : Int)))), (9, .int .i64 (((l1).length : Int))), (8, .slice A1 (l1).length cap1), (7, .int .i64 (((l0).length : Int))), (6, .slice A0 (l0).length cap0)] (by kernel_rfl) ?_
  refine wS_end (by rfl) ?_
  refine eX_then ?_
  refine cW_cond (t := (((l0).length : Int)) != (((l1).length : Int))) (by kernel_rfl) (fun hb3 => ?_) (fun hb3 => ?_)
  · have hm := condT hb3 hm
    refine cW_seq ?_
    refine cW_region ?_
    refine wS_pure 1 [(4, .bool (false))] (by kernel_rfl) ?_
    refine wS_end (by rfl) ?_
    refine eX_then ?_
    refine cW_ret ?_
    refine eX_then_ret ?_
    have hq : (some false : Option ((Bool))) = some _ := hm
    replace hq := someE hq
    subst hq
    refine eX_ret (vs := [.bool (false)]) [.tmp 4] (by rfl) ⟨by (show lkE _ _ _ = _); kernel_rfl, trivial⟩ ?_
    exact ⟨rfl, hB⟩
  · have hm := condF hb3 hm
    refine cW_skip ?_
    refine eX_then ?_
    refine cW_seq ?_
    refine cW_seq ?_
    refine cW_region ?_
    refine wS_pure 1 [(5, .int .i64 (0))] (by kernel_rfl) ?_
    refine wS_end (by rfl) ?_
    refine eX_then ?_
    obtain ⟨r118, hr119, hm⟩ := bindE hm
    have hm120 := hm
    refine cW_cut (fun a' w' => Sum.inl (()) = r118 ∧ Fr 27 [] a' ∧ Chg [] w0 w' ∧ w0.heap.size ≤ w'.heap.size) ?_ ?_
    · refine cW_block ?_
      refine cW_loop _ (fun (s121 : Int) a' w' => ∃ x114 : Int, x114 = s121 ∧ Fr 27 [(0, .slice A0 (l0).length cap0), (1, .slice A1 (l1).length cap1), (5, .int .i64 (x114))] a' ∧ SlR 1 encI w' fp0 A0 l0 ∧ SlR 1 encI w' fp1 A1 l1 ∧ Chg [] w0 w' ∧ w0.heap.size ≤ w'.heap.size) hr119 (fun hst => ⟨0, rfl, Fr.of hst (by kernel_rfl), F0, F1, hB, hZ⟩) ?_
      rintro _ c122 a' w113 ⟨x114, rfl, hF115, F116, F117, hB, hZ⟩ hx123
      refine Fr.goOn hF115 (by kernel_rfl) ?_
      have hm := hx123
      unfold m_laws_eqInt64SS_s1 at hm
      refine cW_seq ?_
      refine cW_seq ?_
      refine cW_region ?_
      refine wS_pure 4 [(14, .bool (decide (x114 < (((l0).length : Int))))), (13, .int .i64 (((l0).length : Int))), (12, .slice A0 (l0).length cap0), (11, .int .i64 (x114))] (by kernel_rfl) ?_
      refine wS_end (by rfl) ?_
      refine eX_then ?_
      refine cW_cond (t := decide (x114 < (((l0).length : Int)))) (by kernel_rfl) (fun hb124 => ?_) (fun hb124 => ?_)
      · have hm := condT hb124 hm
        refine cW_skip ?_
        refine eX_then ?_
        refine cW_seq ?_
        refine cW_block ?_
        refine cW_seq ?_
        refine cW_drawnTail [] 8 (by kernel_rfl) (by kernel_rfl) (fun w149 hc150 => ?_)
        replace F116 := F116.chg hc150 Dj.nil
        replace F117 := F117.chg hc150 Dj.nil
        replace hB := hB.inS hc150 inNil
        replace hZ := Nat.le_trans hZ hc150.size
        have hS := Chg.refl [] w149
        have Z151 := F116
        have Z152 := F117
        refine wH_take [0, 1] [1, 0] [(18, .int .i64 (x114)), (17, .slice A0 (l0).length cap0)] (by kernel_rfl) (qT (qT (qB (qT (qL (qB (qT (qT qZ)))))))) (by kernel_rfl) ?_
        obtain ⟨x153, hx154, hm⟩ := bindE hm
        refine wH_idx (i := 2) (d := 19) (T := 24) (A := A0) (n := (l0).length) (cap := cap0) (kd := .i64) (m := x114) (by kernel_rfl) (qT (qT (qB (qT (qL (qB (qT (qT qZ)))))))) (by kernel_rfl) (by kernel_rfl) sl24 (F116.is hx154) ?_
        obtain ⟨A155, cap156, hc158, F157, K159⟩ := SlR.row Z151 hx154
        refine wH_load1 (i := 3) (d := 20) (T := 25) (ad := (elA A0 1 (x114) 0)) (v := .slice A155 (x153).length cap156) (by kernel_rfl) (qT (qT (qB (qT (qL (qB (qT (qT qZ)))))))) (by kernel_rfl) (by kernel_rfl) vt25 (fun W hW => hW.keep hc158) ?_
        refine wH_take [4, 5] [5, 4, 3, 2, 1, 0] [(22, .int .i64 (x114)), (21, .slice A1 (l1).length cap1)] (by kernel_rfl) (qT (qT (qB (qT (qL (qB (qT (qT qZ)))))))) (by kernel_rfl) ?_
        obtain ⟨x161, hx162, hm⟩ := bindE hm
        refine wH_idx (i := 6) (d := 23) (T := 24) (A := A1) (n := (l1).length) (cap := cap1) (kd := .i64) (m := x114) (by kernel_rfl) (qT (qT (qB (qT (qL (qB (qT (qT qZ)))))))) (by kernel_rfl) (by kernel_rfl) sl24 (F117.is hx162) ?_
        obtain ⟨A163, cap164, hc166, F165, K167⟩ := SlR.row Z152 hx162
        refine wH_load1 (i := 7) (d := 24) (T := 25) (ad := (elA A1 1 (x114) 0)) (v := .slice A163 (x161).length cap164) (by kernel_rfl) (qT (qT (qB (qT (qL (qB (qT (qT qZ)))))))) (by kernel_rfl) (by kernel_rfl) vt25 (fun W hW => hW.keep hc166) ?_
        refine wH_done (by kernel_rfl) ?_
        refine eX_tail ?_
        obtain ⟨y169, hy170, hm⟩ := bindE hm
        refine wS_calls (d := 25) (f := 42) (vs := [.slice A155 (x153).length cap156, .slice A163 (x161).length cap164]) (by kernel_rfl) ent42 (c_laws_eqInt64S hy170 F157 F165) ?_
        rintro _ w171 ⟨rfl, hc172⟩
        replace F116 := F116.chg hc172 Dj.nil
        replace F117 := F117.chg hc172 Dj.nil
        replace F157 := F157.chg hc172 Dj.nil
        replace F165 := F165.chg hc172 Dj.nil
        replace hB := hB.inS hc172 inNil
        replace hZ := Nat.le_trans hZ hc172.size
        refine ⟨.bool (y169), rfl, ?_⟩
        refine wS_pure 1 [(26, .bool (!y169))] (by kernel_rfl) ?_
        refine wS_end (by rfl) ?_
        refine eX_then ?_
        refine cW_cond (t := !y169) (by kernel_rfl) (fun hb173 => ?_) (fun hb173 => ?_)
        · have hm := condT hb173 hm
          refine cW_seq ?_
          refine cW_region ?_
          refine wS_pure 1 [(4, .bool (false))] (by kernel_rfl) ?_
          refine wS_end (by rfl) ?_
          refine eX_then ?_
          refine cW_ret ?_
          refine eX_block_ret ?_
          refine eX_then_ret ?_
          have hq : (some (Ctl.out (Sum.inr false)) : Option (Ctl (Int) (Sum (Unit) ((Bool))))) = some _ := hm
          replace hq := someE hq
          subst hq
          refine eX_outR hx123 (fun hr => ?_)
          subst hr
          refine eX_block_ret ?_
          refine eX_then_ret ?_
          refine eX_then_ret ?_
          have hq : (some false : Option ((Bool))) = some _ := hm120
          replace hq := someE hq
          subst hq
          refine eX_ret (vs := [.bool (false)]) [.tmp 4] (by rfl) ⟨by (show lkE _ _ _ = _); kernel_rfl, trivial⟩ ?_
          exact ⟨rfl, hB⟩
        · have hm := condF hb173 hm
          refine cW_skip ?_
          refine eX_block ?_
          refine eX_then ?_
          refine cW_region ?_
          refine wS_pure 3 [(5, .int .i64 (wr (x114 + 1))), (16, .int .i64 (wr (x114 + 1))), (15, .int .i64 (x114))] (by kernel_rfl) ?_
          refine wS_end (by rfl) ?_
          have hq : (some (Ctl.next (wr (x114 + 1))) : Option (Ctl (Int) (Sum (Unit) ((Bool))))) = some _ := hm
          replace hq := someE hq
          subst hq
          exact eX_next hx123 (fun hst => ⟨wr (x114 + 1), rfl, Fr.of hst (by kernel_rfl), F116, F117, hB, hZ⟩)
      · have hm := condF hb124 hm
        refine cW_exit ?_
        refine eX_then_exit ?_
        have hq : (some (Ctl.out (Sum.inl (()))) : Option (Ctl (Int) (Sum (Unit) ((Bool))))) = some _ := hm
        replace hq := someE hq
        subst hq
        refine eX_outX hx123 (fun hr174 => ?_)
        replace hr174 := hr174.symm
        subst hr174
        refine eX_block_hit ?_
        exact eX_J (fun hst => ⟨rfl, Fr.of hst (by kernel_rfl), hB, hZ⟩)
    · rintro a' w111 ⟨hJ, hF112, hB, hZ⟩
      subst hJ
      refine Fr.goX hF112 (by kernel_rfl) ?_
      refine eX_then ?_
      refine cW_seq ?_
      refine cW_region ?_
      refine wS_pure 1 [(4, .bool (true))] (by kernel_rfl) ?_
      refine wS_end (by rfl) ?_
      refine eX_then ?_
      refine cW_ret ?_
      have hq : (some true : Option ((Bool))) = some _ := hm
      replace hq := someE hq
      subst hq
      refine eX_ret (vs := [.bool (true)]) [.tmp 4] (by rfl) ⟨by (show lkE _ _ _ = _); kernel_rfl, trivial⟩ ?_
      exact ⟨rfl, hB⟩

set_option maxRecDepth 100000 in
/-- laws.markInt64S -/
theorem c_laws_markInt64S {w0 : World} {l0 : List (Int)} {A0 : Option Addr} {cap0 : Nat} {fp0 : List Nat} {p1 : Int} {r : (Int) × (List (Int))} (hm : m_laws_markInt64S l0 p1 = some r) (F0 : Ow 1 encI 2 w0 fp0 A0 cap0 l0) :
    Calls Try.prog 44 #[.slice A0 (l0).length cap0, .int .i64 (p1)] w0 fun e w' => e = .returned (.int .i64 (r.1)) ∧ Ow 1 encI 2 w' fp0 A0 cap0 r.2 ∧ (r.2).length = (l0).length ∧ Chg (fp0 ++ []) w0 w' := by
  have L0 := F0.low
  have hB : Chg (fp0 ++ []) w0 w0 := Chg.refl _ _
  have hZ := Nat.le_refl w0.heap.size
  unfold m_laws_markInt64S at hm
  refine enterE (N := 19) Try.func44 (by rfl) Try.ntmps44 (by simp) [(0, .slice A0 (l0).length cap0), (1, .int .i64 (p1))] (by rfl) (by kernel_rfl) (fun a => ?_)
  refine cW_seq ?_
  refine cW_region ?_
  refine wS_pure 1 [(4, .int .i64 (0))] (by kernel_rfl) ?_
  refine wS_end (by rfl) ?_
  refine eX_then ?_
  refine cW_seq ?_
  refine cW_seq ?_
  refine cW_region ?_
  refine wS_pure 1 [(5, .int .i64 (0))] (by kernel_rfl) ?_
  refine wS_end (by rfl) ?_
  refine eX_then ?_
  obtain ⟨r37, hr38, hm⟩ := bindE hm
  have hm39 := hm
  refine cW_cut (fun a' w' => ∃ x25 : Int, ∃ l26 : List (Int), (x25, l26) = r37 ∧ Fr 19 [(1, .int .i64 (x25))] a' ∧ Ow 1 encI 2 w' fp0 A0 cap0 l26 ∧ (l26).length = (l0).length ∧ Chg (fp0 ++ []) w0 w' ∧ w0.heap.size ≤ w'.heap.size) ?_ ?_
  · refine cW_block ?_
    refine cW_loop _ (fun (s40 : Int × Int × (List (Int))) a' w' => ∃ x31 : Int, ∃ x32 : Int, ∃ l33 : List (Int), (x31, x32, l33) = s40 ∧ Fr 19 [(0, .slice A0 (l33).length cap0), (1, .int .i64 (x31)), (5, .int .i64 (x32))] a' ∧ Ow 1 encI 2 w' fp0 A0 cap0 l33 ∧ (l33).length = (l0).length ∧ Chg (fp0 ++ []) w0 w' ∧ w0.heap.size ≤ w'.heap.size) hr38 (fun hst => ⟨p1, 0, l0, rfl, Fr.of hst (by kernel_rfl), F0, (Eq.refl (l0).length), hB, hZ⟩) ?_
    rintro _ c41 a' w30 ⟨x31, x32, l33, rfl, hF34, F35, hl36, hB, hZ⟩ hx42
    refine Fr.goOn hF34 (by kernel_rfl) ?_
    have hm := hx42
    unfold m_laws_markInt64S_s1 at hm
    refine cW_seq ?_
    refine cW_seq ?_
    refine cW_region ?_
    refine wS_pure 4 [(9, .bool (decide (x32 < (((l33).length : Int))))), (8, .int .i64 (((l33).length : Int))), (7, .slice A0 (l33).length cap0), (6, .int .i64 (x32))] (by kernel_rfl) ?_
    refine wS_end (by rfl) ?_
    refine eX_then ?_
    refine cW_cond (t := decide (x32 < (((l33).length : Int)))) (by kernel_rfl) (fun hb43 => ?_) (fun hb43 => ?_)
    · have hm := condT hb43 hm
      refine cW_skip ?_
      refine eX_then ?_
      refine cW_seq ?_
      refine cW_block ?_
      refine cW_seq ?_
      refine cW_region ?_
      refine wS_pure 3 [(14, .int .i64 (x31)), (13, .int .i64 (x32)), (12, .slice A0 (l33).length cap0)] (by kernel_rfl) ?_
      obtain ⟨x44, hx45, hm⟩ := bindE hm
      refine wS_idx (d := 15) (T := 25) (A := A0) (n := (l33).length) (cap := cap0) (kd := .i64) (m := x32) (by kernel_rfl) sl25 ((F35.sl encI_ok).is hx45) ?_
      refine wS_storeEl (x := x44) x31 (T := 2) (U := 2) (cap := cap0) (j := 0) (A := A0) (v := .int .i64 (x31)) (vs := [.int .i64 (x31)]) (m := x32) (by kernel_rfl) (by rfl) sz2 (by rfl) encI_ok F35 hx45 (by simp only [List.length_cons, List.length_nil]; omega) (by rfl) ?_
      intro w46 F47 hc48
      replace hB := hB.inS hc48 (inMem (fun x hx => (List.mem_append_left _ hx)))
      replace hZ := Nat.le_trans hZ hc48.size
      clear F35
      have hl49 := (show (l33.set (Int.toNat x32) x31).length = (l33).length from List.length_set ..).trans hl36
      rewrite [show (l33).length = (l33.set (Int.toNat x32) x31).length from (List.length_set ..).symm]
      refine wS_end (by rfl) ?_
      refine eX_then ?_
      refine cW_region ?_
      refine wS_pure 3 [(1, .int .i64 (wr (x31 + 1))), (17, .int .i64 (wr (x31 + 1))), (16, .int .i64 (x31))] (by kernel_rfl) ?_
      refine wS_end (by rfl) ?_
      refine eX_block ?_
      refine eX_then ?_
      refine cW_region ?_
      refine wS_pure 3 [(5, .int .i64 (wr (x32 + 1))), (11, .int .i64 (wr (x32 + 1))), (10, .int .i64 (x32))] (by kernel_rfl) ?_
      refine wS_end (by rfl) ?_
      have hq : (some (Ctl.next ((wr (x31 + 1), wr (x32 + 1), l33.set (Int.toNat x32) x31))) : Option (Ctl (Int × Int × (List (Int))) (Int × (List (Int))))) = some _ := hm
      replace hq := someE hq
      subst hq
      exact eX_next hx42 (fun hst => ⟨wr (x31 + 1), wr (x32 + 1), l33.set (Int.toNat x32) x31, rfl, Fr.of hst (by kernel_rfl), F47, hl49, hB, hZ⟩)
    · have hm := condF hb43 hm
      refine cW_exit ?_
      refine eX_then_exit ?_
      have hq : (some (Ctl.out ((x31, l33))) : Option (Ctl (Int × Int × (List (Int))) (Int × (List (Int))))) = some _ := hm
      replace hq := someE hq
      subst hq
      refine eX_outX hx42 (fun hr50 => ?_)
      replace hr50 := hr50.symm
      subst hr50
      refine eX_block_hit ?_
      exact eX_J (fun hst => ⟨x31, l33, rfl, Fr.of hst (by kernel_rfl), F35, hl36, hB, hZ⟩)
  · rintro a' w24 ⟨x25, l26, hJ, hF27, F28, hl29, hB, hZ⟩
    subst hJ
    refine Fr.goX hF27 (by kernel_rfl) ?_
    refine eX_then ?_
    refine cW_seq ?_
    refine cW_region ?_
    refine wS_pure 2 [(4, .int .i64 (x25)), (18, .int .i64 (x25))] (by kernel_rfl) ?_
    refine wS_end (by rfl) ?_
    refine eX_then ?_
    refine cW_ret ?_
    have hq : (some ((x25, l26)) : Option ((Int) × (List (Int)))) = some _ := hm
    replace hq := someE hq
    subst hq
    refine eX_ret (vs := [.int .i64 (x25)]) [.tmp 4] (by rfl) ⟨by (show lkE _ _ _ = _); kernel_rfl, trivial⟩ ?_
    exact ⟨rfl, F28, (by first | exact hl29 | rfl), hB⟩

set_option maxRecDepth 100000 in
/-- laws.markInt64SS -/
theorem c_laws_markInt64SS {w0 : World} {l0 : List (List (Int))} {A0 : Option Addr} {cap0 : Nat} {fp0 fr0 : List Nat} {p1 : Int} {r : (Int) × (List (List (Int)))} (hm : m_laws_markInt64SS l0 p1 = some r) (F0 : OwR 1 encI 25 2 w0 fp0 fr0 A0 cap0 l0) :
    Calls Try.prog 35 #[.slice A0 (l0).length cap0, .int .i64 (p1)] w0 fun e w' => e = .returned (.int .i64 (r.1)) ∧ OwR 1 encI 25 2 w' fp0 fr0 A0 cap0 r.2 ∧ (r.2).length = (l0).length ∧ Chg ((fp0 ++ fr0) ++ []) w0 w' := by
  have L0 := F0.low
  have hB : Chg ((fp0 ++ fr0) ++ []) w0 w0 := Chg.refl _ _
  have hZ := Nat.le_refl w0.heap.size
  unfold m_laws_markInt64SS at hm
  refine enterE (N := 19) Try.func35 (by rfl) Try.ntmps35 (by simp) [(0, .slice A0 (l0).length cap0), (1, .int .i64 (p1))] (by rfl) (by kernel_rfl) (fun a => ?_)
  refine cW_seq ?_
  refine cW_region ?_
  refine wS_pure 1 [(4, .int .i64 (0))] (by kernel_rfl) ?_
  refine wS_end (by rfl) ?_
  refine eX_then ?_
  refine cW_seq ?_
  refine cW_seq ?_
  refine cW_region ?_
  refine wS_pure 1 [(5, .int .i64 (0))] (by kernel_rfl) ?_
  refine wS_end (by rfl) ?_
  refine eX_then ?_
  obtain ⟨r67, hr68, hm⟩ := bindE hm
  have hm69 := hm
  refine cW_cut (fun a' w' => ∃ x55 : Int, ∃ l56 : List (List (Int)), (x55, l56) = r67 ∧ Fr 19 [(1, .int .i64 (x55))] a' ∧ OwR 1 encI 25 2 w' fp0 fr0 A0 cap0 l56 ∧ (l56).length = (l0).length ∧ Chg ((fp0 ++ fr0) ++ []) w0 w' ∧ w0.heap.size ≤ w'.heap.size) ?_ ?_
  · refine cW_block ?_
    refine cW_loop _ (fun (s70 : Int × Int × (List (List (Int)))) a' w' => ∃ x61 : Int, ∃ x62 : Int, ∃ l63 : List (List (Int)), (x61, x62, l63) = s70 ∧ Fr 19 [(0, .slice A0 (l63).length cap0), (1, .int .i64 (x61)), (5, .int .i64 (x62))] a' ∧ OwR 1 encI 25 2 w' fp0 fr0 A0 cap0 l63 ∧ (l63).length = (l0).length ∧ Chg ((fp0 ++ fr0) ++ []) w0 w' ∧ w0.heap.size ≤ w'.heap.size) hr68 (fun hst => ⟨p1, 0, l0, rfl, Fr.of hst (by kernel_rfl), F0, (Eq.refl (l0).length), hB, hZ⟩) ?_
    rintro _ c71 a' w60 ⟨x61, x62, l63, rfl, hF64, F65, hl66, hB, hZ⟩ hx72
    refine Fr.goOn hF64 (by kernel_rfl) ?_
    have hm := hx72
    unfold m_laws_markInt64SS_s1 at hm
    refine cW_seq ?_
    refine cW_seq ?_
    refine cW_region ?_
    refine wS_pure 4 [(9, .bool (decide (x62 < (((l63).length : Int))))), (8, .int .i64 (((l63).length : Int))), (7, .slice A0 (l63).length cap0), (6, .int .i64 (x62))] (by kernel_rfl) ?_
    refine wS_end (by rfl) ?_
    refine eX_then ?_
    refine cW_cond (t := decide (x62 < (((l63).length : Int)))) (by kernel_rfl) (fun hb73 => ?_) (fun hb73 => ?_)
    · have hm := condT hb73 hm
      refine cW_skip ?_
      refine eX_then ?_
      refine cW_seq ?_
      refine cW_block ?_
      refine cW_region ?_
      refine wS_pure 2 [(13, .int .i64 (x62)), (12, .slice A0 (l63).length cap0)] (by kernel_rfl) ?_
      obtain ⟨x74, hx75, hm⟩ := bindE hm
      refine wS_idx (d := 14) (T := 24) (A := A0) (n := (l63).length) (cap := cap0) (kd := .i64) (m := x62) (by kernel_rfl) sl24 ((F65.slr encI_ok).is hx75) ?_
      obtain ⟨A76, cap77, fp81, hc79, hsub82, F78, hcl83⟩ := OwR.lend F65 hx75
      have Dm85 := (F65.dj).symm
      refine wS_load1 (d := 15) (T := 25) (ad := (elA A0 1 (x62) 0)) (v := .slice A76 (x74).length cap77) (by kernel_rfl) vt25 hc79 ?_
      refine wS_pure 1 [(16, .int .i64 (x61))] (by kernel_rfl) ?_
      obtain ⟨y86, hy87, hm⟩ := bindE hm
      refine wS_calls (d := 17) (f := 44) (vs := [.slice A76 (x74).length cap77, .int .i64 (x61)]) (by kernel_rfl) ent44 (c_laws_markInt64S hy87 F78) ?_
      rintro _ w88 ⟨rfl, F90, hl91, hc89⟩
      have F92 := hcl83 _ _ (hc89.more (fun x hx => by simpa using hx)) F90 hl91
      have hc93 := hc89.more (S' := (fp0 ++ fr0) ++ []) (fun x hx => List.mem_append_left _ (hsub82 x (by simpa using hx)))
      have hl94 := (show (l63.set (Int.toNat x62) y86.2).length = (l63).length from List.length_set ..).trans hl66
      clear F65
      replace hB := hB.inS hc93 (inApp (inMem (fun x hx => (List.mem_append_left _ hx))) inNil)
      replace hZ := Nat.le_trans hZ hc93.size
      refine ⟨.int .i64 (y86.1), rfl, ?_⟩
      rewrite [(show (l63).length = (l63.set (Int.toNat x62) y86.2).length from (List.length_set ..).symm)]
      refine wS_pure 1 [(1, .int .i64 (y86.1))] (by kernel_rfl) ?_
      refine wS_end (by rfl) ?_
      refine eX_block ?_
      refine eX_then ?_
      refine cW_region ?_
      refine wS_pure 3 [(5, .int .i64 (wr (x62 + 1))), (11, .int .i64 (wr (x62 + 1))), (10, .int .i64 (x62))] (by kernel_rfl) ?_
      refine wS_end (by rfl) ?_
      have hq : (some (Ctl.next ((y86.1, wr (x62 + 1), l63.set (Int.toNat x62) y86.2))) : Option (Ctl (Int × Int × (List (List (Int)))) (Int × (List (List (Int)))))) = some _ := hm
      replace hq := someE hq
      subst hq
      exact eX_next hx72 (fun hst => ⟨y86.1, wr (x62 + 1), l63.set (Int.toNat x62) y86.2, rfl, Fr.of hst (by kernel_rfl), F92, hl94, hB, hZ⟩)
    · have hm := condF hb73 hm
      refine cW_exit ?_
      refine eX_then_exit ?_
      have hq : (some (Ctl.out ((x61, l63))) : Option (Ctl (Int × Int × (List (List (Int)))) (Int × (List (List (Int)))))) = some _ := hm
      replace hq := someE hq
      subst hq
      refine eX_outX hx72 (fun hr95 => ?_)
      replace hr95 := hr95.symm
      subst hr95
      refine eX_block_hit ?_
      exact eX_J (fun hst => ⟨x61, l63, rfl, Fr.of hst (by kernel_rfl), F65, hl66, hB, hZ⟩)
  · rintro a' w54 ⟨x55, l56, hJ, hF57, F58, hl59, hB, hZ⟩
    subst hJ
    refine Fr.goX hF57 (by kernel_rfl) ?_
    refine eX_then ?_
    refine cW_seq ?_
    refine cW_region ?_
    refine wS_pure 2 [(4, .int .i64 (x55)), (18, .int .i64 (x55))] (by kernel_rfl) ?_
    refine wS_end (by rfl) ?_
    refine eX_then ?_
    refine cW_ret ?_
    have hq : (some ((x55, l56)) : Option ((Int) × (List (List (Int))))) = some _ := hm
    replace hq := someE hq
    subst hq
    refine eX_ret (vs := [.int .i64 (x55)]) [.tmp 4] (by rfl) ⟨by (show lkE _ _ _ = _); kernel_rfl, trivial⟩ ?_
    exact ⟨rfl, F58, (by first | exact hl59 | rfl), hB⟩

set_option maxRecDepth 100000 in
/-- laws.heldInt64S -/
theorem c_laws_heldInt64S {w0 : World} {l0 : List (Int)} {A0 : Option Addr} {cap0 : Nat} {fp0 : List Nat} {p1 : Int} {r : (Int)} (hm : m_laws_heldInt64S l0 p1 = some r) (F0 : Sl 1 encI w0 fp0 A0 l0) :
    Calls Try.prog 45 #[.slice A0 (l0).length cap0, .int .i64 (p1)] w0 fun e w' => e = .returned (.int .i64 (r)) ∧ Chg [] w0 w' := by
  have L0 := F0.low
  have hB : Chg [] w0 w0 := Chg.refl _ _
  have hZ := Nat.le_refl w0.heap.size
  unfold m_laws_heldInt64S at hm
  refine enterE (N := 21) Try.func45 (by rfl) Try.ntmps45 (by simp) [(0, .slice A0 (l0).length cap0), (1, .int .i64 (p1))] (by rfl) (by kernel_rfl) (fun a => ?_)
  refine cW_seq ?_
  refine cW_region ?_
  refine wS_pure 1 [(4, .int .i64 (0))] (by kernel_rfl) ?_
  refine wS_end (by rfl) ?_
  refine eX_then ?_
  refine cW_seq ?_
  refine cW_seq ?_
  refine cW_region ?_
  refine wS_pure 1 [(5, .int .i64 (0))] (by kernel_rfl) ?_
  refine wS_end (by rfl) ?_
  refine eX_then ?_
  obtain ⟨r24, hr25, hm⟩ := bindE hm
  have hm26 := hm
  refine cW_cut (fun a' w' => ∃ x17 : Int, Sum.inl x17 = r24 ∧ Fr 21 [(1, .int .i64 (x17))] a' ∧ Chg [] w0 w' ∧ w0.heap.size ≤ w'.heap.size) ?_ ?_
  · refine cW_block ?_
    refine cW_loop _ (fun (s27 : Int × Int) a' w' => ∃ x20 : Int, ∃ x21 : Int, (x20, x21) = s27 ∧ Fr 21 [(0, .slice A0 (l0).length cap0), (1, .int .i64 (x20)), (5, .int .i64 (x21))] a' ∧ Sl 1 encI w' fp0 A0 l0 ∧ Chg [] w0 w' ∧ w0.heap.size ≤ w'.heap.size) hr25 (fun hst => ⟨p1, 0, rfl, Fr.of hst (by kernel_rfl), F0, hB, hZ⟩) ?_
    rintro _ c28 a' w19 ⟨x20, x21, rfl, hF22, F23, hB, hZ⟩ hx29
    refine Fr.goOn hF22 (by kernel_rfl) ?_
    have hm := hx29
    unfold m_laws_heldInt64S_s1 at hm
    refine cW_seq ?_
    refine cW_seq ?_
    refine cW_region ?_
    refine wS_pure 4 [(9, .bool (decide (x21 < (((l0).length : Int))))), (8, .int .i64 (((l0).length : Int))), (7, .slice A0 (l0).length cap0), (6, .int .i64 (x21))] (by kernel_rfl) ?_
    refine wS_end (by rfl) ?_
    refine eX_then ?_
    refine cW_cond (t := decide (x21 < (((l0).length : Int)))) (by kernel_rfl) (fun hb30 => ?_) (fun hb30 => ?_)
    · have hm := condT hb30 hm
      refine cW_skip ?_
      refine eX_then ?_
      refine cW_seq ?_
      refine cW_block ?_
      refine cW_seq ?_
      refine cW_seq ?_
      refine cW_region ?_
      refine wS_pure 2 [(13, .int .i64 (x21)), (12, .slice A0 (l0).length cap0)] (by kernel_rfl) ?_
      obtain ⟨x31, hx32, hm⟩ := bindE hm
      refine wS_idx (d := 14) (T := 25) (A := A0) (n := (l0).length) (cap := cap0) (kd := .i64) (m := x21) (by kernel_rfl) sl25 (F23.is hx32) ?_
      refine wS_load1 (d := 15) (T := 2) (ad := (elA A0 1 (x21) 0)) (v := .int .i64 (x31)) (by kernel_rfl) vt2 (Sl.cell F23 hx32 0 (by rfl)) ?_
      refine wS_pure 2 [(17, .bool (x31 != x20)), (16, .int .i64 (x20))] (by kernel_rfl) ?_
      refine wS_end (by rfl) ?_
      refine eX_then ?_
      refine cW_cond (t := x31 != x20) (by kernel_rfl) (fun hb33 => ?_) (fun hb33 => ?_)
      · have hm := condT hb33 hm
        refine cW_seq ?_
        refine cW_region ?_
        refine wS_pure 1 [(4, .int .i64 ((-1)))] (by kernel_rfl) ?_
        refine wS_end (by rfl) ?_
        refine eX_then ?_
        refine cW_ret ?_
        refine eX_then_ret ?_
        refine eX_block_ret ?_
        refine eX_then_ret ?_
        have hq : (some (Ctl.out (Sum.inr ((-1)))) : Option (Ctl (Int × Int) (Sum (Int) ((Int))))) = some _ := hm
        replace hq := someE hq
        subst hq
        refine eX_outR hx29 (fun hr => ?_)
        subst hr
        refine eX_block_ret ?_
        refine eX_then_ret ?_
        refine eX_then_ret ?_
        have hq : (some ((-1)) : Option ((Int))) = some _ := hm26
        replace hq := someE hq
        subst hq
        refine eX_ret (vs := [.int .i64 ((-1))]) [.tmp 4] (by rfl) ⟨by (show lkE _ _ _ = _); kernel_rfl, trivial⟩ ?_
        exact ⟨rfl, hB⟩
      · have hm := condF hb33 hm
        refine cW_skip ?_
        refine eX_then ?_
        refine cW_region ?_
        refine wS_pure 3 [(1, .int .i64 (wr (x20 + 1))), (19, .int .i64 (wr (x20 + 1))), (18, .int .i64 (x20))] (by kernel_rfl) ?_
        refine wS_end (by rfl) ?_
        refine eX_block ?_
        refine eX_then ?_
        refine cW_region ?_
        refine wS_pure 3 [(5, .int .i64 (wr (x21 + 1))), (11, .int .i64 (wr (x21 + 1))), (10, .int .i64 (x21))] (by kernel_rfl) ?_
        refine wS_end (by rfl) ?_
        have hq : (some (Ctl.next ((wr (x20 + 1), wr (x21 + 1)))) : Option (Ctl (Int × Int) (Sum (Int) ((Int))))) = some _ := hm
        replace hq := someE hq
        subst hq
        exact eX_next hx29 (fun hst => ⟨wr (x20 + 1), wr (x21 + 1), rfl, Fr.of hst (by kernel_rfl), F23, hB, hZ⟩)
    · have hm := condF hb30 hm
      refine cW_exit ?_
      refine eX_then_exit ?_
      have hq : (some (Ctl.out (Sum.inl x20)) : Option (Ctl (Int × Int) (Sum (Int) ((Int))))) = some _ := hm
      replace hq := someE hq
      subst hq
      refine eX_outX hx29 (fun hr34 => ?_)
      replace hr34 := hr34.symm
      subst hr34
      refine eX_block_hit ?_
      exact eX_J (fun hst => ⟨x20, rfl, Fr.of hst (by kernel_rfl), hB, hZ⟩)
  · rintro a' w16 ⟨x17, hJ, hF18, hB, hZ⟩
    subst hJ
    refine Fr.goX hF18 (by kernel_rfl) ?_
    refine eX_then ?_
    refine cW_seq ?_
    refine cW_region ?_
    refine wS_pure 2 [(4, .int .i64 (x17)), (20, .int .i64 (x17))] (by kernel_rfl) ?_
    refine wS_end (by rfl) ?_
    refine eX_then ?_
    refine cW_ret ?_
    have hq : (some x17 : Option ((Int))) = some _ := hm
    replace hq := someE hq
    subst hq
    refine eX_ret (vs := [.int .i64 (x17)]) [.tmp 4] (by rfl) ⟨by (show lkE _ _ _ = _); kernel_rfl, trivial⟩ ?_
    exact ⟨rfl, hB⟩

set_option maxRecDepth 100000 in
/-- laws.szInt64S -/
theorem c_laws_szInt64S {w0 : World} {l0 : List (Int)} {A0 : Option Addr} {cap0 : Nat} {fp0 : List Nat} {p1 : Int} {r : (Int)} (hm : m_laws_szInt64S l0 p1 = some r) (F0 : Sl 1 encI w0 fp0 A0 l0) :
    Calls Try.prog 81 #[.slice A0 (l0).length cap0, .int .i64 (p1)] w0 fun e w' => e = .returned (.int .i64 (r)) ∧ Chg [] w0 w' := by
  have L0 := F0.low
  have hB : Chg [] w0 w0 := Chg.refl _ _
  have hZ := Nat.le_refl w0.heap.size
  unfold m_laws_szInt64S at hm
  refine enterE (N := 12) Try.func81 (by rfl) Try.ntmps81 (by simp) [(0, .slice A0 (l0).length cap0), (1, .int .i64 (p1))] (by rfl) (by kernel_rfl) (fun a => ?_)
  refine cW_seq ?_
  refine cW_region ?_
  refine wS_pure 1 [(4, .int .i64 (0))] (by kernel_rfl) ?_
  refine wS_end (by rfl) ?_
  refine eX_then ?_
  refine cW_seq ?_
  refine cW_region ?_
  refine wS_pure 5 [(1, .int .i64 (wr (p1 - (((l0).length : Int))))), (8, .int .i64 (wr (p1 - (((l0).length : Int))))), (7, .int .i64 (((l0).length : Int))), (6, .slice A0 (l0).length cap0), (5, .int .i64 (p1))] (by kernel_rfl) ?_
  refine wS_end (by rfl) ?_
  refine eX_then ?_
  refine cW_seq ?_
  refine cW_seq ?_
  refine cW_region ?_
  refine wS_pure 2 [(10, .bool (decide ((wr (p1 - (((l0).length : Int)))) < 0))), (9, .int .i64 (wr (p1 - (((l0).length : Int)))))] (by kernel_rfl) ?_
  refine wS_end (by rfl) ?_
  refine eX_then ?_
  refine cW_cond (t := decide ((wr (p1 - (((l0).length : Int)))) < 0)) (by kernel_rfl) (fun hb2 => ?_) (fun hb2 => ?_)
  · have hm := condT hb2 hm
    refine cW_seq ?_
    refine cW_region ?_
    refine wS_pure 1 [(4, .int .i64 ((-1)))] (by kernel_rfl) ?_
    refine wS_end (by rfl) ?_
    refine eX_then ?_
    refine cW_ret ?_
    refine eX_then_ret ?_
    have hq : (some ((-1)) : Option ((Int))) = some _ := hm
    replace hq := someE hq
    subst hq
    refine eX_ret (vs := [.int .i64 ((-1))]) [.tmp 4] (by rfl) ⟨by (show lkE _ _ _ = _); kernel_rfl, trivial⟩ ?_
    exact ⟨rfl, hB⟩
  · have hm := condF hb2 hm
    refine cW_skip ?_
    refine eX_then ?_
    refine cW_seq ?_
    refine cW_region ?_
    refine wS_pure 2 [(4, .int .i64 (wr (p1 - (((l0).length : Int))))), (11, .int .i64 (wr (p1 - (((l0).length : Int)))))] (by kernel_rfl) ?_
    refine wS_end (by rfl) ?_
    refine eX_then ?_
    refine cW_ret ?_
    have hq : (some (wr (p1 - (((l0).length : Int)))) : Option ((Int))) = some _ := hm
    replace hq := someE hq
    subst hq
    refine eX_ret (vs := [.int .i64 (wr (p1 - (((l0).length : Int))))]) [.tmp 4] (by rfl) ⟨by (show lkE _ _ _ = _); kernel_rfl, trivial⟩ ?_
    exact ⟨rfl, hB⟩

set_option maxRecDepth 100000 in
/-- laws.szInt64SS -/
theorem c_laws_szInt64SS {w0 : World} {l0 : List (List (Int))} {A0 : Option Addr} {cap0 : Nat} {fp0 : List Nat} {p1 : Int} {r : (Int)} (hm : m_laws_szInt64SS l0 p1 = some r) (F0 : SlR 1 encI w0 fp0 A0 l0) :
    Calls Try.prog 80 #[.slice A0 (l0).length cap0, .int .i64 (p1)] w0 fun e w' => e = .returned (.int .i64 (r)) ∧ Chg [] w0 w' := by
  have L0 := F0.low
  have hB : Chg [] w0 w0 := Chg.refl _ _
  have hZ := Nat.le_refl w0.heap.size
  unfold m_laws_szInt64SS at hm
  refine enterE (N := 27) Try.func80 (by rfl) Try.ntmps80 (by simp) [(0, .slice A0 (l0).length cap0), (1, .int .i64 (p1))] (by rfl) (by kernel_rfl) (fun a => ?_)
  refine cW_seq ?_
  refine cW_region ?_
  refine wS_pure 1 [(4, .int .i64 (0))] (by kernel_rfl) ?_
  refine wS_end (by rfl) ?_
  refine eX_then ?_
  refine cW_seq ?_
  refine cW_region ?_
  refine wS_pure 5 [(1, .int .i64 (wr (p1 - (((l0).length : Int))))), (9, .int .i64 (wr (p1 - (((l0).length : Int))))), (8, .int .i64 (((l0).length : Int))), (7, .slice A0 (l0).length cap0), (6, .int .i64 (p1))] (by kernel_rfl) ?_
  refine wS_end (by rfl) ?_
  refine eX_then ?_
  refine cW_seq ?_
  refine cW_seq ?_
  refine cW_region ?_
  refine wS_pure 2 [(11, .bool (decide ((wr (p1 - (((l0).length : Int)))) < 0))), (10, .int .i64 (wr (p1 - (((l0).length : Int)))))] (by kernel_rfl) ?_
  refine wS_end (by rfl) ?_
  refine eX_then ?_
  refine cW_cond (t := decide ((wr (p1 - (((l0).length : Int)))) < 0)) (by kernel_rfl) (fun hb2 => ?_) (fun hb2 => ?_)
  · have hm := condT hb2 hm
    refine cW_seq ?_
    refine cW_region ?_
    refine wS_pure 1 [(4, .int .i64 ((-1)))] (by kernel_rfl) ?_
    refine wS_end (by rfl) ?_
    refine eX_then ?_
    refine cW_ret ?_
    refine eX_then_ret ?_
    have hq : (some ((-1)) : Option ((Int))) = some _ := hm
    replace hq := someE hq
    subst hq
    refine eX_ret (vs := [.int .i64 ((-1))]) [.tmp 4] (by rfl) ⟨by (show lkE _ _ _ = _); kernel_rfl, trivial⟩ ?_
    exact ⟨rfl, hB⟩
  · have hm := condF hb2 hm
    refine cW_skip ?_
    refine eX_then ?_
    refine cW_seq ?_
    refine cW_seq ?_
    refine cW_region ?_
    refine wS_pure 1 [(5, .int .i64 (0))] (by kernel_rfl) ?_
    refine wS_end (by rfl) ?_
    refine eX_then ?_
    obtain ⟨r45, hr46, hm⟩ := bindE hm
    have hm47 := hm
    refine cW_cut (fun a' w' => ∃ x38 : Int, Sum.inl x38 = r45 ∧ Fr 27 [(1, .int .i64 (x38))] a' ∧ Chg [] w0 w' ∧ w0.heap.size ≤ w'.heap.size) ?_ ?_
    · refine cW_block ?_
      refine cW_loop _ (fun (s48 : Int × Int) a' w' => ∃ x41 : Int, ∃ x42 : Int, (x41, x42) = s48 ∧ Fr 27 [(0, .slice A0 (l0).length cap0), (1, .int .i64 (x41)), (5, .int .i64 (x42))] a' ∧ SlR 1 encI w' fp0 A0 l0 ∧ Chg [] w0 w' ∧ w0.heap.size ≤ w'.heap.size) hr46 (fun hst => ⟨wr (p1 - (((l0).length : Int))), 0, rfl, Fr.of hst (by kernel_rfl), F0, hB, hZ⟩) ?_
      rintro _ c49 a' w40 ⟨x41, x42, rfl, hF43, F44, hB, hZ⟩ hx50
      refine Fr.goOn hF43 (by kernel_rfl) ?_
      have hm := hx50
      unfold m_laws_szInt64SS_s1 at hm
      refine cW_seq ?_
      refine cW_seq ?_
      refine cW_region ?_
      refine wS_pure 4 [(15, .bool (decide (x42 < (((l0).length : Int))))), (14, .int .i64 (((l0).length : Int))), (13, .slice A0 (l0).length cap0), (12, .int .i64 (x42))] (by kernel_rfl) ?_
      refine wS_end (by rfl) ?_
      refine eX_then ?_
      refine cW_cond (t := decide (x42 < (((l0).length : Int)))) (by kernel_rfl) (fun hb51 => ?_) (fun hb51 => ?_)
      · have hm := condT hb51 hm
        refine cW_skip ?_
        refine eX_then ?_
        refine cW_seq ?_
        refine cW_block ?_
        refine cW_seq ?_
        refine cW_region ?_
        refine wS_pure 2 [(19, .int .i64 (x42)), (18, .slice A0 (l0).length cap0)] (by kernel_rfl) ?_
        obtain ⟨x52, hx53, hm⟩ := bindE hm
        refine wS_idx (d := 20) (T := 24) (A := A0) (n := (l0).length) (cap := cap0) (kd := .i64) (m := x42) (by kernel_rfl) sl24 (F44.is hx53) ?_
        obtain ⟨A54, cap55, hc57, F56, K58⟩ := SlR.row F44 hx53
        refine wS_load1 (d := 21) (T := 25) (ad := (elA A0 1 (x42) 0)) (v := .slice A54 (x52).length cap55) (by kernel_rfl) vt25 hc57 ?_
        refine wS_pure 1 [(22, .int .i64 (x41))] (by kernel_rfl) ?_
        obtain ⟨y60, hy61, hm⟩ := bindE hm
        refine wS_calls (d := 23) (f := 81) (vs := [.slice A54 (x52).length cap55, .int .i64 (x41)]) (by kernel_rfl) ent81 (c_laws_szInt64S hy61 F56) ?_
        rintro _ w62 ⟨rfl, hc63⟩
        replace F44 := F44.chg hc63 Dj.nil
        replace F56 := F56.chg hc63 Dj.nil
        replace hB := hB.inS hc63 inNil
        replace hZ := Nat.le_trans hZ hc63.size
        refine ⟨.int .i64 (y60), rfl, ?_⟩
        refine wS_pure 1 [(1, .int .i64 (y60))] (by kernel_rfl) ?_
        refine wS_end (by rfl) ?_
        refine eX_then ?_
        refine cW_seq ?_
        refine cW_region ?_
        refine wS_pure 2 [(25, .bool (decide (y60 < 0))), (24, .int .i64 (y60))] (by kernel_rfl) ?_
        refine wS_end (by rfl) ?_
        refine eX_then ?_
        refine cW_cond (t := decide (y60 < 0)) (by kernel_rfl) (fun hb64 => ?_) (fun hb64 => ?_)
        · have hm := condT hb64 hm
          refine cW_seq ?_
          refine cW_region ?_
          refine wS_pure 1 [(4, .int .i64 ((-1)))] (by kernel_rfl) ?_
          refine wS_end (by rfl) ?_
          refine eX_then ?_
          refine cW_ret ?_
          refine eX_block_ret ?_
          refine eX_then_ret ?_
          have hq : (some (Ctl.out (Sum.inr ((-1)))) : Option (Ctl (Int × Int) (Sum (Int) ((Int))))) = some _ := hm
          replace hq := someE hq
          subst hq
          refine eX_outR hx50 (fun hr => ?_)
          subst hr
          refine eX_block_ret ?_
          refine eX_then_ret ?_
          refine eX_then_ret ?_
          have hq : (some ((-1)) : Option ((Int))) = some _ := hm47
          replace hq := someE hq
          subst hq
          refine eX_ret (vs := [.int .i64 ((-1))]) [.tmp 4] (by rfl) ⟨by (show lkE _ _ _ = _); kernel_rfl, trivial⟩ ?_
          exact ⟨rfl, hB⟩
        · have hm := condF hb64 hm
          refine cW_skip ?_
          refine eX_block ?_
          refine eX_then ?_
          refine cW_region ?_
          refine wS_pure 3 [(5, .int .i64 (wr (x42 + 1))), (17, .int .i64 (wr (x42 + 1))), (16, .int .i64 (x42))] (by kernel_rfl) ?_
          refine wS_end (by rfl) ?_
          have hq : (some (Ctl.next ((y60, wr (x42 + 1)))) : Option (Ctl (Int × Int) (Sum (Int) ((Int))))) = some _ := hm
          replace hq := someE hq
          subst hq
          exact eX_next hx50 (fun hst => ⟨y60, wr (x42 + 1), rfl, Fr.of hst (by kernel_rfl), F44, hB, hZ⟩)
      · have hm := condF hb51 hm
        refine cW_exit ?_
        refine eX_then_exit ?_
        have hq : (some (Ctl.out (Sum.inl x41)) : Option (Ctl (Int × Int) (Sum (Int) ((Int))))) = some _ := hm
        replace hq := someE hq
        subst hq
        refine eX_outX hx50 (fun hr65 => ?_)
        replace hr65 := hr65.symm
        subst hr65
        refine eX_block_hit ?_
        exact eX_J (fun hst => ⟨x41, rfl, Fr.of hst (by kernel_rfl), hB, hZ⟩)
    · rintro a' w37 ⟨x38, hJ, hF39, hB, hZ⟩
      subst hJ
      refine Fr.goX hF39 (by kernel_rfl) ?_
      refine eX_then ?_
      refine cW_seq ?_
      refine cW_region ?_
      refine wS_pure 2 [(4, .int .i64 (x38)), (26, .int .i64 (x38))] (by kernel_rfl) ?_
      refine wS_end (by rfl) ?_
      refine eX_then ?_
      refine cW_ret ?_
      have hq : (some x38 : Option ((Int))) = some _ := hm
      replace hq := someE hq
      subst hq
      refine eX_ret (vs := [.int .i64 (x38)]) [.tmp 4] (by rfl) ⟨by (show lkE _ _ _ = _); kernel_rfl, trivial⟩ ?_
      exact ⟨rfl, hB⟩

set_option maxRecDepth 100000 in
/-- laws.szWiring -/
theorem c_laws_szWiring {w0 : World} {p0_0 : Int} {l0_1 : List (List (Int))} {A0_1 : Option Addr} {cap0_1 : Nat} {fp0_1 : List Nat} {l0_2 : List (List (Int))} {A0_2 : Option Addr} {cap0_2 : Nat} {fp0_2 : List Nat} {l0_3 : List (Int)} {A0_3 : Option Addr} {cap0_3 : Nat} {fp0_3 : List Nat} {p1 : Int} {r : (Int)} (hm : m_laws_szWiring p0_0 l0_1 l0_2 l0_3 p1 = some r) (F0_1 : SlR 1 encI w0 fp0_1 A0_1 l0_1) (F0_2 : SlR 1 encI w0 fp0_2 A0_2 l0_2) (F0_3 : Sl 1 encI w0 fp0_3 A0_3 l0_3) :
    Calls Try.prog 37 #[.agg #[.int .i64 (p0_0), .slice A0_1 (l0_1).length cap0_1, .slice A0_2 (l0_2).length cap0_2, .slice A0_3 (l0_3).length cap0_3], .int .i64 (p1)] w0 fun e w' => e = .returned (.int .i64 (r)) ∧ Chg [] w0 w' := by
  have L0_1 := F0_1.low
  have L0_2 := F0_2.low
  have L0_3 := F0_3.low
  have hB : Chg [] w0 w0 := Chg.refl _ _
  have hZ := Nat.le_refl w0.heap.size
  unfold m_laws_szWiring at hm
  refine enterE (N := 24) Try.func37 (by rfl) Try.ntmps37 (by simp) [(0, .agg #[.int .i64 (p0_0), .slice A0_1 (l0_1).length cap0_1, .slice A0_2 (l0_2).length cap0_2, .slice A0_3 (l0_3).length cap0_3]), (1, .int .i64 (p1))] (by rfl) (by kernel_rfl) (fun a => ?_)
  refine cW_seq ?_
  refine cW_region ?_
  refine wS_box (d := 2) (T := 59) (x := .agg #[.int .i64 (p0_0), .slice A0_1 (l0_1).length cap0_1, .slice A0_2 (l0_2).length cap0_2, .slice A0_3 (l0_3).length cap0_3]) (by kernel_rfl) ?_
  intro b4 w5 G6 F7 hc8
  replace F7 : Cl w5 b4 59 [.int .i64 (p0_0), .slice A0_1 (l0_1).length cap0_1, .slice A0_2 (l0_2).length cap0_2, .slice A0_3 (l0_3).length cap0_3] := F7
  replace F0_1 := F0_1.chg hc8 Dj.nil
  replace F0_2 := F0_2.chg hc8 Dj.nil
  replace F0_3 := F0_3.chg hc8 Dj.nil
  replace hB := hB.inS hc8 inNil
  replace G6 := Nat.le_trans hZ G6
  replace hZ := Nat.le_trans hZ hc8.size
  refine wS_pure 1 [(4, .int .i64 (0))] (by kernel_rfl) ?_
  refine wS_end (by rfl) ?_
  refine eX_then ?_
  refine cW_seq ?_
  refine cW_region ?_
  refine wS_pure 1 [(5, .pointer (some ⟨b4, 1, none⟩))] (by kernel_rfl) ?_
  refine wS_load1 (d := 6) (T := 24) (ad := ⟨b4, 1, none⟩) (v := .slice A0_1 (l0_1).length cap0_1) (by kernel_rfl) vt24 ((F7).cell 1) ?_
  refine wS_pure 1 [(7, .int .i64 (p1))] (by kernel_rfl) ?_
  obtain ⟨y10, hy11, hm⟩ := bindE hm
  refine wS_calls (d := 8) (f := 80) (vs := [.slice A0_1 (l0_1).length cap0_1, .int .i64 (p1)]) (by kernel_rfl) ent80 (c_laws_szInt64SS hy11 F0_1) ?_
  rintro _ w12 ⟨rfl, hc13⟩
  replace F0_1 := F0_1.chg hc13 Dj.nil
  replace F0_2 := F0_2.chg hc13 Dj.nil
  replace F0_3 := F0_3.chg hc13 Dj.nil
  replace F7 := F7.chg hc13 notNil
  replace hB := hB.inS hc13 inNil
  replace hZ := Nat.le_trans hZ hc13.size
  refine ⟨.int .i64 (y10), rfl, ?_⟩
  refine wS_pure 1 [(1, .int .i64 (y10))] (by kernel_rfl) ?_
  refine wS_end (by rfl) ?_
  refine eX_then ?_
  refine cW_seq ?_
  refine cW_seq ?_
  refine cW_region ?_
  refine wS_pure 2 [(10, .bool (decide (y10 < 0))), (9, .int .i64 (y10))] (by kernel_rfl) ?_
  refine wS_end (by rfl) ?_
  refine eX_then ?_
  refine cW_cond (t := decide (y10 < 0)) (by kernel_rfl) (fun hb14 => ?_) (fun hb14 => ?_)
  · have hm := condT hb14 hm
    refine cW_seq ?_
    refine cW_region ?_
    refine wS_pure 1 [(4, .int .i64 ((-1)))] (by kernel_rfl) ?_
    refine wS_end (by rfl) ?_
    refine eX_then ?_
    refine cW_ret ?_
    refine eX_then_ret ?_
    have hq : (some ((-1)) : Option ((Int))) = some _ := hm
    replace hq := someE hq
    subst hq
    refine eX_ret (vs := [.int .i64 ((-1))]) [.tmp 4] (by rfl) ⟨by (show lkE _ _ _ = _); kernel_rfl, trivial⟩ ?_
    exact ⟨rfl, hB⟩
  · have hm := condF hb14 hm
    refine cW_skip ?_
    refine eX_then ?_
    refine cW_seq ?_
    refine cW_region ?_
    refine wS_pure 1 [(11, .pointer (some ⟨b4, 2, none⟩))] (by kernel_rfl) ?_
    refine wS_load1 (d := 12) (T := 24) (ad := ⟨b4, 2, none⟩) (v := .slice A0_2 (l0_2).length cap0_2) (by kernel_rfl) vt24 ((F7).cell 2) ?_
    refine wS_pure 1 [(13, .int .i64 (y10))] (by kernel_rfl) ?_
    obtain ⟨y15, hy16, hm⟩ := bindE hm
    refine wS_calls (d := 14) (f := 80) (vs := [.slice A0_2 (l0_2).length cap0_2, .int .i64 (y10)]) (by kernel_rfl) ent80 (c_laws_szInt64SS hy16 F0_2) ?_
    rintro _ w17 ⟨rfl, hc18⟩
    replace F0_1 := F0_1.chg hc18 Dj.nil
    replace F0_2 := F0_2.chg hc18 Dj.nil
    replace F0_3 := F0_3.chg hc18 Dj.nil
    replace F7 := F7.chg hc18 notNil
    replace hB := hB.inS hc18 inNil
    replace hZ := Nat.le_trans hZ hc18.size
    refine ⟨.int .i64 (y15), rfl, ?_⟩
    refine wS_pure 1 [(1, .int .i64 (y15))] (by kernel_rfl) ?_
    refine wS_end (by rfl) ?_
    refine eX_then ?_
    refine cW_seq ?_
    refine cW_seq ?_
    refine cW_region ?_
    refine wS_pure 2 [(16, .bool (decide (y15 < 0))), (15, .int .i64 (y15))] (by kernel_rfl) ?_
    refine wS_end (by rfl) ?_
    refine eX_then ?_
    refine cW_cond (t := decide (y15 < 0)) (by kernel_rfl) (fun hb19 => ?_) (fun hb19 => ?_)
    · have hm := condT hb19 hm
      refine cW_seq ?_
      refine cW_region ?_
      refine wS_pure 1 [(4, .int .i64 ((-1)))] (by kernel_rfl) ?_
      refine wS_end (by rfl) ?_
      refine eX_then ?_
      refine cW_ret ?_
      refine eX_then_ret ?_
      have hq : (some ((-1)) : Option ((Int))) = some _ := hm
      replace hq := someE hq
      subst hq
      refine eX_ret (vs := [.int .i64 ((-1))]) [.tmp 4] (by rfl) ⟨by (show lkE _ _ _ = _); kernel_rfl, trivial⟩ ?_
      exact ⟨rfl, hB⟩
    · have hm := condF hb19 hm
      refine cW_skip ?_
      refine eX_then ?_
      refine cW_seq ?_
      refine cW_region ?_
      refine wS_pure 1 [(17, .pointer (some ⟨b4, 3, none⟩))] (by kernel_rfl) ?_
      refine wS_load1 (d := 18) (T := 25) (ad := ⟨b4, 3, none⟩) (v := .slice A0_3 (l0_3).length cap0_3) (by kernel_rfl) vt25 ((F7).cell 3) ?_
      refine wS_pure 1 [(19, .int .i64 (y15))] (by kernel_rfl) ?_
      obtain ⟨y20, hy21, hm⟩ := bindE hm
      refine wS_calls (d := 20) (f := 81) (vs := [.slice A0_3 (l0_3).length cap0_3, .int .i64 (y15)]) (by kernel_rfl) ent81 (c_laws_szInt64S hy21 F0_3) ?_
      rintro _ w22 ⟨rfl, hc23⟩
      replace F0_1 := F0_1.chg hc23 Dj.nil
      replace F0_2 := F0_2.chg hc23 Dj.nil
      replace F0_3 := F0_3.chg hc23 Dj.nil
      replace F7 := F7.chg hc23 notNil
      replace hB := hB.inS hc23 inNil
      replace hZ := Nat.le_trans hZ hc23.size
      refine ⟨.int .i64 (y20), rfl, ?_⟩
      refine wS_pure 1 [(1, .int .i64 (y20))] (by kernel_rfl) ?_
      refine wS_end (by rfl) ?_
      refine eX_then ?_
      refine cW_seq ?_
      refine cW_seq ?_
      refine cW_region ?_
      refine wS_pure 2 [(22, .bool (decide (y20 < 0))), (21, .int .i64 (y20))] (by kernel_rfl) ?_
      refine wS_end (by rfl) ?_
      refine eX_then ?_
      refine cW_cond (t := decide (y20 < 0)) (by kernel_rfl) (fun hb24 => ?_) (fun hb24 => ?_)
      · have hm := condT hb24 hm
        refine cW_seq ?_
        refine cW_region ?_
        refine wS_pure 1 [(4, .int .i64 ((-1)))] (by kernel_rfl) ?_
        refine wS_end (by rfl) ?_
        refine eX_then ?_
        refine cW_ret ?_
        refine eX_then_ret ?_
        have hq : (some ((-1)) : Option ((Int))) = some _ := hm
        replace hq := someE hq
        subst hq
        refine eX_ret (vs := [.int .i64 ((-1))]) [.tmp 4] (by rfl) ⟨by (show lkE _ _ _ = _); kernel_rfl, trivial⟩ ?_
        exact ⟨rfl, hB⟩
      · have hm := condF hb24 hm
        refine cW_skip ?_
        refine eX_then ?_
        refine cW_seq ?_
        refine cW_region ?_
        refine wS_pure 2 [(4, .int .i64 (y20)), (23, .int .i64 (y20))] (by kernel_rfl) ?_
        refine wS_end (by rfl) ?_
        refine eX_then ?_
        refine cW_ret ?_
        have hq : (some y20 : Option ((Int))) = some _ := hm
        replace hq := someE hq
        subst hq
        refine eX_ret (vs := [.int .i64 (y20)]) [.tmp 4] (by rfl) ⟨by (show lkE _ _ _ = _); kernel_rfl, trivial⟩ ?_
        exact ⟨rfl, hB⟩

set_option maxRecDepth 100000 in
/-- spec.l00Own -/
theorem c_spec_l00Own {w0 : World} {l0 : List (Int)} {A0 : Option Addr} {cap0 : Nat} {fp0 : List Nat} {r : (List (Int))} (hm : m_spec_l00Own l0 = some r) (F0 : Sl 1 encI w0 fp0 A0 l0) :
    Calls Try.prog 88 #[.slice A0 (l0).length cap0] w0 fun e w' => ∃ A100 cap100 fp100, e = .returned (.slice A100 (r).length cap100) ∧ Ow 1 encI 2 w' fp100 A100 cap100 r ∧ (∀ x ∈ fp100, w0.heap.size ≤ x) ∧ Chg [] w0 w' := by
  have L0 := F0.low
  have hB : Chg [] w0 w0 := Chg.refl _ _
  have hZ := Nat.le_refl w0.heap.size
  unfold m_spec_l00Own at hm
  refine enterE (N := 6) Try.func88 (by rfl) Try.ntmps88 (by simp) [(0, .slice A0 (l0).length cap0)] (by rfl) (by kernel_rfl) (fun a => ?_)
  refine cW_seq ?_
  refine cW_region ?_
  refine wS_pure 1 [(2, .slice none 0 0)] (by kernel_rfl) ?_
  refine wS_end (by rfl) ?_
  refine eX_then ?_
  refine cW_seq ?_
  refine cW_region ?_
  refine wS_bs0 (α := Int) (enc := encI) (d := 3) (t := 25) (T := 2) (by kernel_rfl) el25 ?_
  intro b2 w3 G4 F5 hc6
  replace F0 := F0.chg hc6 Dj.nil
  replace hB := hB.inS hc6 inNil
  replace G4 := Nat.le_trans hZ G4
  replace G4 := low1 G4
  replace hZ := Nat.le_trans hZ hc6.size
  refine wS_pure 1 [(4, .slice A0 (l0).length cap0)] (by kernel_rfl) ?_
  obtain ⟨_, hk8, hm⟩ := bindE hm
  replace hk8 := apE hk8
  refine wS_appendAny (enc := encI) (l := (([] : List (Int)) : List (Int))) (l2 := (l0 : List (Int))) (d := 5) (t := 25) (T := 2) (A := (some ⟨b2, 0, none⟩)) (A2 := A0) (cap := 0) (cap2 := cap0) (by kernel_rfl) el25 encI_ok F5 F0 hk8 ?_
  intro w9 fp10 A11 cap12 F13 hc14 hp15
  have G17 := low_ap G4 hZ hp15
  replace F0 := F0.chg hc14 (Dj.of L0 G4)
  replace hB := hB.inS hc14 (inLow G4)
  replace hZ := Nat.le_trans hZ hc14.size
  refine wS_pure 1 [(2, .slice A11 ((([] : List (Int))) ++ l0).length cap12)] (by kernel_rfl) ?_
  refine wS_end (by rfl) ?_
  refine eX_then ?_
  refine cW_ret ?_
  have hq : (some ((([] : List (Int))) ++ l0) : Option ((List (Int)))) = some _ := hm
  replace hq := someE hq
  subst hq
  refine eX_ret (vs := [.slice A11 ((([] : List (Int))) ++ l0).length cap12]) [.tmp 2] (by rfl) ⟨by (show lkE _ _ _ = _); kernel_rfl, trivial⟩ ?_
  exact ⟨A11, cap12, fp10, rfl, F13, G17, hB⟩

set_option maxRecDepth 100000 in
/-- spec.l07Cross -/
theorem c_spec_l07Cross_bimplWiring {w0 : World} {q0_0 : Int} {l0_1 : List (List (Int))} {A0_1 : Option Addr} {cap0_1 : Nat} {fp0_1 : List Nat} {l0_2 : List (List (Int))} {A0_2 : Option Addr} {cap0_2 : Nat} {fp0_2 : List Nat} {l0_3 : List (Int)} {A0_3 : Option Addr} {cap0_3 : Nat} {fp0_3 : List Nat} {b0 : Nat} {p1 : Int} {p2 : Int} {r : (Bool)} (hm : m_spec_l07Cross_bimplWiring q0_0 l0_1 l0_2 l0_3 p1 p2 = some r) (F0_1 : SlR 1 encI w0 fp0_1 A0_1 l0_1) (F0_2 : SlR 1 encI w0 fp0_2 A0_2 l0_2) (F0_3 : Sl 1 encI w0 fp0_3 A0_3 l0_3) (F0 : Cl w0 b0 27 [.int .i64 (q0_0), .slice A0_1 (l0_1).length cap0_1, .slice A0_2 (l0_2).length cap0_2, .slice A0_3 (l0_3).length cap0_3]) :
    Calls Try.prog 120 #[.pointer (some ⟨b0, 0, none⟩), .int .i64 (p1), .int .i64 (p2)] w0 fun e w' => e = .returned (.bool (r)) ∧ Chg [] w0 w' := by
  have L0_1 := F0_1.low
  have L0_2 := F0_2.low
  have L0_3 := F0_3.low
  have L0 := lt1 F0.lt
  have hB : Chg [] w0 w0 := Chg.refl _ _
  have hZ := Nat.le_refl w0.heap.size
  unfold m_spec_l07Cross_bimplWiring at hm
  refine enterE (N := 51) Try.func120 (by rfl) Try.ntmps120 (by simp) [(0, .pointer (some ⟨b0, 0, none⟩)), (1, .int .i64 (p1)), (2, .int .i64 (p2))] (by rfl) (by kernel_rfl) (fun a => ?_)
  refine cW_seq ?_
  refine cW_region ?_
  refine wS_pure 1 [(6, .bool (false))] (by kernel_rfl) ?_
  refine wS_end (by rfl) ?_
  refine eX_then ?_
  refine cW_seq ?_
  refine cW_seq ?_
  refine cW_region ?_
  refine wS_pure 1 [(7, .int .i64 (0))] (by kernel_rfl) ?_
  refine wS_end (by rfl) ?_
  refine eX_then ?_
  obtain ⟨r89, hr90, hm⟩ := bindE hm
  have hm91 := hm
  refine cW_cut (fun a' w' => Sum.inl (()) = r89 ∧ Fr 51 [] a' ∧ Chg [] w0 w' ∧ w0.heap.size ≤ w'.heap.size) ?_ ?_
  · refine cW_block ?_
    refine cW_loop _ (fun (s92 : Int) a' w' => ∃ x83 : Int, x83 = s92 ∧ Fr 51 [(0, .pointer (some ⟨b0, 0, none⟩)), (1, .int .i64 (p1)), (2, .int .i64 (p2)), (7, .int .i64 (x83))] a' ∧ SlR 1 encI w' fp0_1 A0_1 l0_1 ∧ SlR 1 encI w' fp0_2 A0_2 l0_2 ∧ Sl 1 encI w' fp0_3 A0_3 l0_3 ∧ Cl w' b0 27 [.int .i64 (q0_0), .slice A0_1 (l0_1).length cap0_1, .slice A0_2 (l0_2).length cap0_2, .slice A0_3 (l0_3).length cap0_3] ∧ Chg [] w0 w' ∧ w0.heap.size ≤ w'.heap.size) hr90 (fun hst => ⟨0, rfl, Fr.of hst (by kernel_rfl), F0_1, F0_2, F0_3, F0, hB, hZ⟩) ?_
    rintro _ c93 a' w82 ⟨x83, rfl, hF84, F85, F86, F87, F88, hB, hZ⟩ hx94
    refine Fr.goOn hF84 (by kernel_rfl) ?_
    have hm := hx94
    unfold m_spec_l07Cross_bimplWiring_s1 at hm
    refine cW_seq ?_
    refine cW_seq ?_
    refine cW_region ?_
    refine wS_pure 4 [(12, .pointer (some ⟨b0, 1, none⟩)), (11, .pointer (some ⟨b0, 0, none⟩)), (10, .pointer (some ⟨b0, 0, none⟩)), (9, .int .i64 (x83))] (by kernel_rfl) ?_
    refine wS_load1 (d := 13) (T := 24) (ad := ⟨b0, 1, none⟩) (v := .slice A0_1 (l0_1).length cap0_1) (by kernel_rfl) vt24 ((F88).cell 1) ?_
    refine wS_pure 2 [(15, .bool (decide (x83 < (((l0_1).length : Int))))), (14, .int .i64 (((l0_1).length : Int)))] (by kernel_rfl) ?_
    refine wS_end (by rfl) ?_
    refine eX_then ?_
    refine cW_cond (t := decide (x83 < (((l0_1).length : Int)))) (by kernel_rfl) (fun hb95 => ?_) (fun hb95 => ?_)
    · have hm := condT hb95 hm
      refine cW_skip ?_
      refine eX_then ?_
      refine cW_seq ?_
      refine cW_block ?_
      refine cW_seq ?_
      refine cW_region ?_
      refine wS_pure 3 [(20, .pointer (some ⟨b0, 1, none⟩)), (19, .pointer (some ⟨b0, 0, none⟩)), (18, .pointer (some ⟨b0, 0, none⟩))] (by kernel_rfl) ?_
      refine wS_load1 (d := 21) (T := 24) (ad := ⟨b0, 1, none⟩) (v := .slice A0_1 (l0_1).length cap0_1) (by kernel_rfl) vt24 ((F88).cell 1) ?_
      refine wS_pure 1 [(22, .int .i64 (x83))] (by kernel_rfl) ?_
      obtain ⟨x96, hx97, hm⟩ := bindE hm
      refine wS_idx (d := 23) (T := 24) (A := A0_1) (n := (l0_1).length) (cap := cap0_1) (kd := .i64) (m := x83) (by kernel_rfl) sl24 (F85.is hx97) ?_
      obtain ⟨A98, cap99, hc101, F100, K102⟩ := SlR.row F85 hx97
      refine wS_load1 (d := 24) (T := 25) (ad := (elA A0_1 1 (x83) 0)) (v := .slice A98 (x96).length cap99) (by kernel_rfl) vt25 hc101 ?_
      refine wS_pure 1 [(8, .slice A98 (x96).length cap99)] (by kernel_rfl) ?_
      refine wS_end (by rfl) ?_
      refine eX_then ?_
      refine cW_seq ?_
      refine cW_region ?_
      refine wS_pure 1 [(25, .slice A98 (x96).length cap99)] (by kernel_rfl) ?_
      obtain ⟨x104, hx105, hm⟩ := bindE hm
      refine wS_idx (d := 26) (T := 25) (A := A98) (n := (x96).length) (cap := cap99) (kd := .i64) (m := 0) (by kernel_rfl) sl25 (F100.is hx105) ?_
      refine wS_load1 (d := 27) (T := 2) (ad := (elA A98 1 (0) 0)) (v := .int .i64 (x104)) (by kernel_rfl) vt2 (Sl.cell F100 hx105 0 (by rfl)) ?_
      refine wS_pure 3 [(30, .bool (x104 == p1)), (29, .bool (x104 == p1)), (28, .int .i64 (p1))] (by kernel_rfl) ?_
      refine wS_bool (x104 == p1) (fun hb106 => ?_) (fun hb106 => ?_)
      · have hm := condT hb106 hm
        rewrite [hb106]
        refine wS_pure 1 [(31, .slice A98 (x96).length cap99)] (by kernel_rfl) ?_
        obtain ⟨x107, hx108, hm⟩ := bindE hm
        refine wS_idx (d := 32) (T := 25) (A := A98) (n := (x96).length) (cap := cap99) (kd := .i64) (m := 1) (by kernel_rfl) sl25 (F100.is hx108) ?_
        refine wS_load1 (d := 33) (T := 2) (ad := (elA A98 1 (1) 0)) (v := .int .i64 (x107)) (by kernel_rfl) vt2 (Sl.cell F100 hx108 0 (by rfl)) ?_
        refine wS_pure 4 [(37, .bool (x107 == p2)), (36, .bool (x107 == p2)), (35, .bool (x107 == p2)), (34, .int .i64 (p2))] (by kernel_rfl) ?_
        refine wS_bool (x107 == p2) (fun hb109 => ?_) (fun hb109 => ?_)
        · have hm := condT hb109 hm
          rewrite [hb109]
          refine wS_pure 13 [(50, .bool (true)), (49, undef), (48, undef), (47, undef), (46, undef), (45, undef), (44, undef), (43, undef), (42, undef), (41, undef), (40, undef), (39, undef), (38, undef)] (by kernel_rfl) ?_
          refine wS_end (by rfl) ?_
          refine eX_then ?_
          refine cW_prune [(0, .pointer (some ⟨b0, 0, none⟩)), (1, .int .i64 (p1)), (2, .int .i64 (p2)), (7, .int .i64 (x83)), (50, .bool (true))] (by kernel_rfl) (by kernel_rfl) (fun a110 => ?_)
          refine cW_cond_t (by kernel_rfl) ?_
          refine cW_seq ?_
          refine cW_region ?_
          refine wS_pure 1 [(6, .bool (true))] (by kernel_rfl) ?_
          refine wS_end (by rfl) ?_
          refine eX_then ?_
          refine cW_ret ?_
          refine eX_block_ret ?_
          refine eX_then_ret ?_
          have hq : (some (Ctl.out (Sum.inr true)) : Option (Ctl (Int) (Sum (Unit) ((Bool))))) = some _ := hm
          replace hq := someE hq
          subst hq
          refine eX_outR hx94 (fun hr => ?_)
          subst hr
          refine eX_block_ret ?_
          refine eX_then_ret ?_
          refine eX_then_ret ?_
          have hq : (some true : Option ((Bool))) = some _ := hm91
          replace hq := someE hq
          subst hq
          refine eX_ret (vs := [.bool (true)]) [.tmp 6] (by rfl) ⟨by (show lkE _ _ _ = _); kernel_rfl, trivial⟩ ?_
          exact ⟨rfl, hB⟩
        · have hm := condF hb109 hm
          rewrite [hb109]
          refine wS_pure 1 [(38, .slice A98 (x96).length cap99)] (by kernel_rfl) ?_
          obtain ⟨x111, hx112, hm⟩ := bindE hm
          refine wS_idx (d := 39) (T := 25) (A := A98) (n := (x96).length) (cap := cap99) (kd := .i64) (m := 0) (by kernel_rfl) sl25 (F100.is hx112) ?_
          refine wS_load1 (d := 40) (T := 2) (ad := (elA A98 1 (0) 0)) (v := .int .i64 (x111)) (by kernel_rfl) vt2 (Sl.cell F100 hx112 0 (by rfl)) ?_
          refine wS_pure 3 [(43, .bool (x111 == p2)), (42, .bool (x111 == p2)), (41, .int .i64 (p2))] (by kernel_rfl) ?_
          refine wS_bool (x111 == p2) (fun hb113 => ?_) (fun hb113 => ?_)
          · have hm := condT hb113 hm
            rewrite [hb113]
            refine wS_pure 1 [(44, .slice A98 (x96).length cap99)] (by kernel_rfl) ?_
            obtain ⟨x114, hx115, hm⟩ := bindE hm
            refine wS_idx (d := 45) (T := 25) (A := A98) (n := (x96).length) (cap := cap99) (kd := .i64) (m := 1) (by kernel_rfl) sl25 (F100.is hx115) ?_
            refine wS_load1 (d := 46) (T := 2) (ad := (elA A98 1 (1) 0)) (v := .int .i64 (x114)) (by kernel_rfl) vt2 (Sl.cell F100 hx115 0 (by rfl)) ?_
            refine wS_pure 4 [(50, .bool (x114 == p1)), (49, .bool (x114 == p1)), (48, .bool (x114 == p1)), (47, .int .i64 (p1))] (by kernel_rfl) ?_
            refine wS_end (by rfl) ?_
            refine eX_then ?_
            refine cW_prune [(0, .pointer (some ⟨b0, 0, none⟩)), (1, .int .i64 (p1)), (2, .int .i64 (p2)), (7, .int .i64 (x83)), (50, .bool (x114 == p1))] (by kernel_rfl) (by kernel_rfl) (fun a116 => ?_)
            refine cW_cond (t := x114 == p1) (by kernel_rfl) (fun hb117 => ?_) (fun hb117 => ?_)
            · have hm := condT hb117 hm
              refine cW_seq ?_
              refine cW_region ?_
              refine wS_pure 1 [(6, .bool (true))] (by kernel_rfl) ?_
              refine wS_end (by rfl) ?_
              refine eX_then ?_
              refine cW_ret ?_
              refine eX_block_ret ?_
              refine eX_then_ret ?_
              have hq : (some (Ctl.out (Sum.inr true)) : Option (Ctl (Int) (Sum (Unit) ((Bool))))) = some _ := hm
              replace hq := someE hq
              subst hq
              refine eX_outR hx94 (fun hr => ?_)
              subst hr
              refine eX_block_ret ?_
              refine eX_then_ret ?_
              refine eX_then_ret ?_
              have hq : (some true : Option ((Bool))) = some _ := hm91
              replace hq := someE hq
              subst hq
              refine eX_ret (vs := [.bool (true)]) [.tmp 6] (by rfl) ⟨by (show lkE _ _ _ = _); kernel_rfl, trivial⟩ ?_
              exact ⟨rfl, hB⟩
            · have hm := condF hb117 hm
              refine cW_skip ?_
              refine eX_block ?_
              refine eX_then ?_
              refine cW_region ?_
              refine wS_pure 3 [(7, .int .i64 (wr (x83 + 1))), (17, .int .i64 (wr (x83 + 1))), (16, .int .i64 (x83))] (by kernel_rfl) ?_
              refine wS_end (by rfl) ?_
              have hq : (some (Ctl.next (wr (x83 + 1))) : Option (Ctl (Int) (Sum (Unit) ((Bool))))) = some _ := hm
              replace hq := someE hq
              subst hq
              exact eX_next hx94 (fun hst => ⟨wr (x83 + 1), rfl, Fr.of hst (by kernel_rfl), F85, F86, F87, F88, hB, hZ⟩)
          · have hm := condF hb113 hm
            rewrite [hb113]
            refine wS_pure 7 [(50, .bool (false)), (49, .bool (false)), (48, undef), (47, undef), (46, undef), (45, undef), (44, undef)] (by kernel_rfl) ?_
            refine wS_end (by rfl) ?_
            refine eX_then ?_
            refine cW_prune [(0, .pointer (some ⟨b0, 0, none⟩)), (1, .int .i64 (p1)), (2, .int .i64 (p2)), (7, .int .i64 (x83)), (50, .bool (false))] (by kernel_rfl) (by kernel_rfl) (fun a118 => ?_)
            refine cW_cond_f (by kernel_rfl) ?_
            refine cW_skip ?_
            refine eX_block ?_
            refine eX_then ?_
            refine cW_region ?_
            refine wS_pure 3 [(7, .int .i64 (wr (x83 + 1))), (17, .int .i64 (wr (x83 + 1))), (16, .int .i64 (x83))] (by kernel_rfl) ?_
            refine wS_end (by rfl) ?_
            have hq : (some (Ctl.next (wr (x83 + 1))) : Option (Ctl (Int) (Sum (Unit) ((Bool))))) = some _ := hm
            replace hq := someE hq
            subst hq
            exact eX_next hx94 (fun hst => ⟨wr (x83 + 1), rfl, Fr.of hst (by kernel_rfl), F85, F86, F87, F88, hB, hZ⟩)
      · have hm := condF hb106 hm
        rewrite [hb106]
        refine wS_pure 8 [(38, .slice A98 (x96).length cap99), (37, .bool (false)), (36, .bool (false)), (35, undef), (34, undef), (33, undef), (32, undef), (31, undef)] (by kernel_rfl) ?_
        obtain ⟨x119, hx120, hm⟩ := bindE hm
        refine wS_idx (d := 39) (T := 25) (A := A98) (n := (x96).length) (cap := cap99) (kd := .i64) (m := 0) (by kernel_rfl) sl25 (F100.is hx120) ?_
        refine wS_load1 (d := 40) (T := 2) (ad := (elA A98 1 (0) 0)) (v := .int .i64 (x119)) (by kernel_rfl) vt2 (Sl.cell F100 hx120 0 (by rfl)) ?_
        refine wS_pure 3 [(43, .bool (x119 == p2)), (42, .bool (x119 == p2)), (41, .int .i64 (p2))] (by kernel_rfl) ?_
        refine wS_bool (x119 == p2) (fun hb121 => ?_) (fun hb121 => ?_)
        · have hm := condT hb121 hm
          rewrite [hb121]
          refine wS_pure 1 [(44, .slice A98 (x96).length cap99)] (by kernel_rfl) ?_
          obtain ⟨x122, hx123, hm⟩ := bindE hm
          refine wS_idx (d := 45) (T := 25) (A := A98) (n := (x96).length) (cap := cap99) (kd := .i64) (m := 1) (by kernel_rfl) sl25 (F100.is hx123) ?_
          refine wS_load1 (d := 46) (T := 2) (ad := (elA A98 1 (1) 0)) (v := .int .i64 (x122)) (by kernel_rfl) vt2 (Sl.cell F100 hx123 0 (by rfl)) ?_
          refine wS_pure 4 [(50, .bool (x122 == p1)), (49, .bool (x122 == p1)), (48, .bool (x122 == p1)), (47, .int .i64 (p1))] (by kernel_rfl) ?_
          refine wS_end (by rfl) ?_
          refine eX_then ?_
          refine cW_prune [(0, .pointer (some ⟨b0, 0, none⟩)), (1, .int .i64 (p1)), (2, .int .i64 (p2)), (7, .int .i64 (x83)), (50, .bool (x122 == p1))] (by kernel_rfl) (by kernel_rfl) (fun a124 => ?_)
          refine cW_cond (t := x122 == p1) (by kernel_rfl) (fun hb125 => ?_) (fun hb125 => ?_)
          · have hm := condT hb125 hm
            refine cW_seq ?_
            refine cW_region ?_
            refine wS_pure 1 [(6, .bool (true))] (by kernel_rfl) ?_
            refine wS_end (by rfl) ?_
            refine eX_then ?_
            refine cW_ret ?_
            refine eX_block_ret ?_
            refine eX_then_ret ?_
            have hq : (some (Ctl.out (Sum.inr true)) : Option (Ctl (Int) (Sum (Unit) ((Bool))))) = some _ := hm
            replace hq := someE hq
            subst hq
            refine eX_outR hx94 (fun hr => ?_)
            subst hr
            refine eX_block_ret ?_
            refine eX_then_ret ?_
            refine eX_then_ret ?_
            have hq : (some true : Option ((Bool))) = some _ := hm91
            replace hq := someE hq
            subst hq
            refine eX_ret (vs := [.bool (true)]) [.tmp 6] (by rfl) ⟨by (show lkE _ _ _ = _); kernel_rfl, trivial⟩ ?_
            exact ⟨rfl, hB⟩
          · have hm := condF hb125 hm
            refine cW_skip ?_
            refine eX_block ?_
            refine eX_then ?_
            refine cW_region ?_
            refine wS_pure 3 [(7, .int .i64 (wr (x83 + 1))), (17, .int .i64 (wr (x83 + 1))), (16, .int .i64 (x83))] (by kernel_rfl) ?_
            refine wS_end (by rfl) ?_
            have hq : (some (Ctl.next (wr (x83 + 1))) : Option (Ctl (Int) (Sum (Unit) ((Bool))))) = some _ := hm
            replace hq := someE hq
            subst hq
            exact eX_next hx94 (fun hst => ⟨wr (x83 + 1), rfl, Fr.of hst (by kernel_rfl), F85, F86, F87, F88, hB, hZ⟩)
        · have hm := condF hb121 hm
          rewrite [hb121]
          refine wS_pure 7 [(50, .bool (false)), (49, .bool (false)), (48, undef), (47, undef), (46, undef), (45, undef), (44, undef)] (by kernel_rfl) ?_
          refine wS_end (by rfl) ?_
          refine eX_then ?_
          refine cW_prune [(0, .pointer (some ⟨b0, 0, none⟩)), (1, .int .i64 (p1)), (2, .int .i64 (p2)), (7, .int .i64 (x83)), (50, .bool (false))] (by kernel_rfl) (by kernel_rfl) (fun a126 => ?_)
          refine cW_cond_f (by kernel_rfl) ?_
          refine cW_skip ?_
          refine eX_block ?_
          refine eX_then ?_
          refine cW_region ?_
          refine wS_pure 3 [(7, .int .i64 (wr (x83 + 1))), (17, .int .i64 (wr (x83 + 1))), (16, .int .i64 (x83))] (by kernel_rfl) ?_
          refine wS_end (by rfl) ?_
          have hq : (some (Ctl.next (wr (x83 + 1))) : Option (Ctl (Int) (Sum (Unit) ((Bool))))) = some _ := hm
          replace hq := someE hq
          subst hq
          exact eX_next hx94 (fun hst => ⟨wr (x83 + 1), rfl, Fr.of hst (by kernel_rfl), F85, F86, F87, F88, hB, hZ⟩)
    · have hm := condF hb95 hm
      refine cW_exit ?_
      refine eX_then_exit ?_
      have hq : (some (Ctl.out (Sum.inl (()))) : Option (Ctl (Int) (Sum (Unit) ((Bool))))) = some _ := hm
      replace hq := someE hq
      subst hq
      refine eX_outX hx94 (fun hr127 => ?_)
      replace hr127 := hr127.symm
      subst hr127
      refine eX_block_hit ?_
      exact eX_J (fun hst => ⟨rfl, Fr.of hst (by kernel_rfl), hB, hZ⟩)
  · rintro a' w80 ⟨hJ, hF81, hB, hZ⟩
    subst hJ
    refine Fr.goX hF81 (by kernel_rfl) ?_
    refine eX_then ?_
    refine cW_seq ?_
    refine cW_region ?_
    refine wS_pure 1 [(6, .bool (false))] (by kernel_rfl) ?_
    refine wS_end (by rfl) ?_
    refine eX_then ?_
    refine cW_ret ?_
    have hq : (some false : Option ((Bool))) = some _ := hm
    replace hq := someE hq
    subst hq
    refine eX_ret (vs := [.bool (false)]) [.tmp 6] (by rfl) ⟨by (show lkE _ _ _ = _); kernel_rfl, trivial⟩ ?_
    exact ⟨rfl, hB⟩

set_option maxRecDepth 100000 in
/-- spec.l07All -/
theorem c_spec_l07All_bimplWiring {w0 : World} {q0_0 : Int} {l0_1 : List (List (Int))} {A0_1 : Option Addr} {cap0_1 : Nat} {fp0_1 : List Nat} {l0_2 : List (List (Int))} {A0_2 : Option Addr} {cap0_2 : Nat} {fp0_2 : List Nat} {l0_3 : List (Int)} {A0_3 : Option Addr} {cap0_3 : Nat} {fp0_3 : List Nat} {b0 : Nat} {r : (List (List (Int)))} (hm : m_spec_l07All_bimplWiring q0_0 l0_1 l0_2 l0_3 = some r) (F0_1 : SlR 1 encI w0 fp0_1 A0_1 l0_1) (F0_2 : SlR 1 encI w0 fp0_2 A0_2 l0_2) (F0_3 : Sl 1 encI w0 fp0_3 A0_3 l0_3) (F0 : Cl w0 b0 27 [.int .i64 (q0_0), .slice A0_1 (l0_1).length cap0_1, .slice A0_2 (l0_2).length cap0_2, .slice A0_3 (l0_3).length cap0_3]) :
    Calls Try.prog 118 #[.pointer (some ⟨b0, 0, none⟩)] w0 fun e w' => ∃ A100 cap100 fp100 fr100, e = .returned (.slice A100 (r).length cap100) ∧ OwR 1 encI 25 2 w' fp100 fr100 A100 cap100 r ∧ (∀ x ∈ fp100 ++ fr100, w0.heap.size ≤ x) ∧ Chg [] w0 w' := by
  have L0_1 := F0_1.low
  have L0_2 := F0_2.low
  have L0_3 := F0_3.low
  have L0 := lt1 F0.lt
  have hB : Chg [] w0 w0 := Chg.refl _ _
  have hZ := Nat.le_refl w0.heap.size
  unfold m_spec_l07All_bimplWiring at hm
  refine enterE (N := 88) Try.func118 (by rfl) Try.ntmps118 (by simp) [(0, .pointer (some ⟨b0, 0, none⟩))] (by rfl) (by kernel_rfl) (fun a => ?_)
  refine cW_seq ?_
  refine cW_region ?_
  refine wS_pure 1 [(2, .slice none 0 0)] (by kernel_rfl) ?_
  refine wS_end (by rfl) ?_
  refine eX_then ?_
  refine cW_seq ?_
  refine cW_region ?_
  refine wS_bs0 (α := Int) (enc := encI) (d := 10) (t := 25) (T := 2) (by kernel_rfl) el25 ?_
  intro b5 w6 G7 F8 hc9
  replace F0_1 := F0_1.chg hc9 Dj.nil
  replace F0_2 := F0_2.chg hc9 Dj.nil
  replace F0_3 := F0_3.chg hc9 Dj.nil
  replace F0 := F0.chg hc9 notNil
  replace hB := hB.inS hc9 inNil
  replace G7 := Nat.le_trans hZ G7
  replace G7 := low1 G7
  replace hZ := Nat.le_trans hZ hc9.size
  refine wS_row1 (k := 1) (enc := encI) (l := ([] : List (Int))) (d := 11) (t := 24) (T := 25) (B := (some ⟨b5, 0, none⟩)) (c := 0) (by kernel_rfl) el24 F8 ?_
  intro b11 w12 G13 F14 hc15
  replace F0_1 := F0_1.chg hc15 Dj.nil
  replace F0_2 := F0_2.chg hc15 Dj.nil
  replace F0_3 := F0_3.chg hc15 Dj.nil
  replace F0 := F0.chg hc15 notNil
  replace F8 := F8.chg hc15 Dj.nil
  replace hB := hB.inS hc15 inNil
  replace G13 := Nat.le_trans hZ G13
  replace G13 := lowApp (low1 G13) G7
  replace hZ := Nat.le_trans hZ hc15.size
  replace F8 := (F8.sl encI_ok)
  refine wS_pure 1 [(3, .slice (some ⟨b11, 0, none⟩) (([([] : List (Int))] : List (List (Int)))).length 1)] (by kernel_rfl) ?_
  refine wS_end (by rfl) ?_
  refine eX_then ?_
  refine cW_seq ?_
  refine cW_seq ?_
  refine cW_region ?_
  refine wS_pure 1 [(4, .int .i64 (0))] (by kernel_rfl) ?_
  refine wS_end (by rfl) ?_
  refine eX_then ?_
  obtain ⟨r14426, hr14427, hm⟩ := bindE hm
  have hm14428 := hm
  refine cW_cut (fun a' w' => ∃ l14402 : List (List (Int)), ∃ A14403 : Option Addr, ∃ cap14404 : Nat, ∃ fp14405 : List Nat, ∃ fr14407 : List Nat, l14402 = r14426 ∧ Fr 88 [(3, .slice A14403 (l14402).length cap14404)] a' ∧ OwR 1 encI 25 2 w' fp14405 fr14407 A14403 cap14404 l14402 ∧ (∀ x ∈ (fp14405 ++ fr14407), w0.heap.size ≤ x) ∧ Chg [] w0 w' ∧ w0.heap.size ≤ w'.heap.size) ?_ ?_
  · refine cW_block ?_
    refine cW_loop _ (fun (s14429 : (List (List (Int))) × Int) a' w' => ∃ l14412 : List (List (Int)), ∃ A14413 : Option Addr, ∃ cap14414 : Nat, ∃ fp14415 : List Nat, ∃ fr14417 : List Nat, ∃ x14418 : Int, (l14412, x14418) = s14429 ∧ Fr 88 [(0, .pointer (some ⟨b0, 0, none⟩)), (3, .slice A14413 (l14412).length cap14414), (4, .int .i64 (x14418))] a' ∧ SlR 1 encI w' fp0_1 A0_1 l0_1 ∧ SlR 1 encI w' fp0_2 A0_2 l0_2 ∧ Sl 1 encI w' fp0_3 A0_3 l0_3 ∧ Cl w' b0 27 [.int .i64 (q0_0), .slice A0_1 (l0_1).length cap0_1, .slice A0_2 (l0_2).length cap0_2, .slice A0_3 (l0_3).length cap0_3] ∧ OwR 1 encI 25 2 w' fp14415 fr14417 A14413 cap14414 l14412 ∧ (∀ x ∈ (fp14415 ++ fr14417), w0.heap.size ≤ x) ∧ Chg [] w0 w' ∧ w0.heap.size ≤ w'.heap.size) hr14427 (fun hst => ⟨([([] : List (Int))] : List (List (Int))), (some ⟨b11, 0, none⟩), 1, [b11], [b5], 0, rfl, Fr.of hst (by kernel_rfl), F0_1, F0_2, F0_3, F0, F14, G13, hB, hZ⟩) ?_
    rintro _ c14430 a' w14411 ⟨l14412, A14413, cap14414, fp14415, fr14417, x14418, rfl, hF14419, F14420, F14421, F14422, F14423, F14424, G14425, hB, hZ⟩ hx14431
    refine Fr.goOn hF14419 (by kernel_rfl) ?_
    have hm := hx14431
    unfold m_spec_l07All_bimplWiring_s81 at hm
    refine cW_seq ?_
    refine cW_seq ?_
    refine cW_region ?_
    refine wS_pure 4 [(15, .pointer (some ⟨b0, 0, none⟩)), (14, .pointer (some ⟨b0, 0, none⟩)), (13, .pointer (some ⟨b0, 0, none⟩)), (12, .int .i64 (x14418))] (by kernel_rfl) ?_
    refine wS_load1 (d := 16) (T := 2) (ad := ⟨b0, 0, none⟩) (v := .int .i64 (q0_0)) (by kernel_rfl) vt2 ((F14423).cell 0) ?_
    refine wS_pure 1 [(17, .bool (decide (x14418 < q0_0)))] (by kernel_rfl) ?_
    refine wS_end (by rfl) ?_
    refine eX_then ?_
    refine cW_cond (t := decide (x14418 < q0_0)) (by kernel_rfl) (fun hb14432 => ?_) (fun hb14432 => ?_)
    · have hm := condT hb14432 hm
      refine cW_skip ?_
      refine eX_then ?_
      refine cW_seq ?_
      refine cW_block ?_
      refine cW_seq ?_
      refine cW_region ?_
      refine wS_rows0 (k := 1) (enc := encI) (d := 20) (t := 24) (T := 25) (T2 := 2) (by kernel_rfl) el24 ?_
      intro b14433 w14434 G14435 F14436 hc14437
      have D14439 : Dj (fp14415 ++ fr14417) ([b14433] ++ []) := Dj.of F14424.low (lowApp (low1 G14435) lowNil)
      replace F14420 := F14420.chg hc14437 Dj.nil
      replace F14421 := F14421.chg hc14437 Dj.nil
      replace F14422 := F14422.chg hc14437 Dj.nil
      replace F14423 := F14423.chg hc14437 notNil
      replace F14424 := F14424.chg hc14437 Dj.nil
      replace hB := hB.inS hc14437 inNil
      replace G14435 := Nat.le_trans hZ G14435
      replace G14435 := low1 G14435
      replace hZ := Nat.le_trans hZ hc14437.size
      replace G14435 := lowApp G14435 lowNil
      refine wS_pure 1 [(5, .slice (some ⟨b14433, 0, none⟩) (([] : List (List (Int)))).length 0)] (by kernel_rfl) ?_
      refine wS_end (by rfl) ?_
      refine eX_then ?_
      refine cW_seq ?_
      refine cW_seq ?_
      refine cW_region ?_
      refine wS_pure 1 [(6, .int .i64 (0))] (by kernel_rfl) ?_
      refine wS_end (by rfl) ?_
      refine eX_then ?_
      obtain ⟨r19236, hr19237, hm⟩ := bindE hm
      have hm19238 := hm
      refine cW_cut (fun a' w' => ∃ l19206 : List (List (Int)), ∃ A19207 : Option Addr, ∃ cap19208 : Nat, ∃ fp19209 : List Nat, ∃ fr19211 : List Nat, l19206 = r19236 ∧ Fr 88 [(0, .pointer (some ⟨b0, 0, none⟩)), (4, .int .i64 (x14418)), (5, .slice A19207 (l19206).length cap19208)] a' ∧ SlR 1 encI w' fp0_1 A0_1 l0_1 ∧ SlR 1 encI w' fp0_2 A0_2 l0_2 ∧ Sl 1 encI w' fp0_3 A0_3 l0_3 ∧ Cl w' b0 27 [.int .i64 (q0_0), .slice A0_1 (l0_1).length cap0_1, .slice A0_2 (l0_2).length cap0_2, .slice A0_3 (l0_3).length cap0_3] ∧ OwR 1 encI 25 2 w' fp19209 fr19211 A19207 cap19208 l19206 ∧ (∀ x ∈ (fp19209 ++ fr19211), w0.heap.size ≤ x) ∧ Chg [] w0 w' ∧ w0.heap.size ≤ w'.heap.size) ?_ ?_
      · refine cW_block ?_
        refine cW_loop _ (fun (s19239 : (List (List (Int))) × Int) a' w' => ∃ l19220 : List (List (Int)), ∃ A19221 : Option Addr, ∃ cap19222 : Nat, ∃ fp19223 : List Nat, ∃ fr19225 : List Nat, ∃ x19226 : Int, (l19220, x19226) = s19239 ∧ Fr 88 [(0, .pointer (some ⟨b0, 0, none⟩)), (3, .slice A14413 (l14412).length cap14414), (4, .int .i64 (x14418)), (5, .slice A19221 (l19220).length cap19222), (6, .int .i64 (x19226))] a' ∧ SlR 1 encI w' fp0_1 A0_1 l0_1 ∧ SlR 1 encI w' fp0_2 A0_2 l0_2 ∧ Sl 1 encI w' fp0_3 A0_3 l0_3 ∧ Cl w' b0 27 [.int .i64 (q0_0), .slice A0_1 (l0_1).length cap0_1, .slice A0_2 (l0_2).length cap0_2, .slice A0_3 (l0_3).length cap0_3] ∧ OwR 1 encI 25 2 w' fp14415 fr14417 A14413 cap14414 l14412 ∧ OwR 1 encI 25 2 w' fp19223 fr19225 A19221 cap19222 l19220 ∧ (∀ x ∈ (fp19223 ++ fr19225), w0.heap.size ≤ x) ∧ Dj (fp14415 ++ fr14417) (fp19223 ++ fr19225) ∧ Chg [] w0 w' ∧ w0.heap.size ≤ w'.heap.size) hr19237 (fun hst => ⟨([] : List (List (Int))), (some ⟨b14433, 0, none⟩), 0, [b14433], [], 0, rfl, Fr.of hst (by kernel_rfl), F14420, F14421, F14422, F14423, F14424, F14436, G14435, D14439, hB, hZ⟩) ?_
        rintro _ c19240 a' w19219 ⟨l19220, A19221, cap19222, fp19223, fr19225, x19226, rfl, hF19227, F19228, F19229, F19230, F19231, F19232, F19233, G19234, D19235, hB, hZ⟩ hx19241
        refine Fr.goOn hF19227 (by kernel_rfl) ?_
        have hm := hx19241
        unfold m_spec_l07All_bimplWiring_s108 at hm
        refine cW_seq ?_
        refine cW_seq ?_
        refine cW_region ?_
        refine wS_pure 4 [(24, .bool (decide (x19226 < (((l14412).length : Int))))), (23, .int .i64 (((l14412).length : Int))), (22, .slice A14413 (l14412).length cap14414), (21, .int .i64 (x19226))] (by kernel_rfl) ?_
        refine wS_end (by rfl) ?_
        refine eX_then ?_
        refine cW_cond (t := decide (x19226 < (((l14412).length : Int)))) (by kernel_rfl) (fun hb19242 => ?_) (fun hb19242 => ?_)
        · have hm := condT hb19242 hm
          refine cW_skip ?_
          refine eX_then ?_
          refine cW_seq ?_
          refine cW_block ?_
          refine cW_seq ?_
          refine cW_region ?_
          refine wS_pure 1 [(7, .int .i64 (0))] (by kernel_rfl) ?_
          refine wS_end (by rfl) ?_
          refine eX_then ?_
          obtain ⟨r20837, hr20838, hm⟩ := bindE hm
          have hm20839 := hm
          refine cW_cut (fun a' w' => ∃ l20805 : List (List (Int)), ∃ A20806 : Option Addr, ∃ cap20807 : Nat, ∃ fp20808 : List Nat, ∃ fr20810 : List Nat, l20805 = r20837 ∧ Fr 88 [(0, .pointer (some ⟨b0, 0, none⟩)), (3, .slice A14413 (l14412).length cap14414), (4, .int .i64 (x14418)), (5, .slice A20806 (l20805).length cap20807), (6, .int .i64 (x19226))] a' ∧ SlR 1 encI w' fp0_1 A0_1 l0_1 ∧ SlR 1 encI w' fp0_2 A0_2 l0_2 ∧ Sl 1 encI w' fp0_3 A0_3 l0_3 ∧ Cl w' b0 27 [.int .i64 (q0_0), .slice A0_1 (l0_1).length cap0_1, .slice A0_2 (l0_2).length cap0_2, .slice A0_3 (l0_3).length cap0_3] ∧ OwR 1 encI 25 2 w' fp14415 fr14417 A14413 cap14414 l14412 ∧ OwR 1 encI 25 2 w' fp20808 fr20810 A20806 cap20807 l20805 ∧ (∀ x ∈ (fp20808 ++ fr20810), w0.heap.size ≤ x) ∧ Dj (fp14415 ++ fr14417) (fp20808 ++ fr20810) ∧ Chg [] w0 w' ∧ w0.heap.size ≤ w'.heap.size) ?_ ?_
          · refine cW_block ?_
            refine cW_loop _ (fun (s20840 : (List (List (Int))) × Int) a' w' => ∃ l20821 : List (List (Int)), ∃ A20822 : Option Addr, ∃ cap20823 : Nat, ∃ fp20824 : List Nat, ∃ fr20826 : List Nat, ∃ x20827 : Int, (l20821, x20827) = s20840 ∧ Fr 88 [(0, .pointer (some ⟨b0, 0, none⟩)), (3, .slice A14413 (l14412).length cap14414), (4, .int .i64 (x14418)), (5, .slice A20822 (l20821).length cap20823), (6, .int .i64 (x19226)), (7, .int .i64 (x20827))] a' ∧ SlR 1 encI w' fp0_1 A0_1 l0_1 ∧ SlR 1 encI w' fp0_2 A0_2 l0_2 ∧ Sl 1 encI w' fp0_3 A0_3 l0_3 ∧ Cl w' b0 27 [.int .i64 (q0_0), .slice A0_1 (l0_1).length cap0_1, .slice A0_2 (l0_2).length cap0_2, .slice A0_3 (l0_3).length cap0_3] ∧ OwR 1 encI 25 2 w' fp14415 fr14417 A14413 cap14414 l14412 ∧ OwR 1 encI 25 2 w' fp20824 fr20826 A20822 cap20823 l20821 ∧ (∀ x ∈ (fp20824 ++ fr20826), w0.heap.size ≤ x) ∧ Dj (fp14415 ++ fr14417) (fp20824 ++ fr20826) ∧ Chg [] w0 w' ∧ w0.heap.size ≤ w'.heap.size) hr20838 (fun hst => ⟨l19220, A19221, cap19222, fp19223, fr19225, 0, rfl, Fr.of hst (by kernel_rfl), F19228, F19229, F19230, F19231, F19232, F19233, G19234, D19235, hB, hZ⟩) ?_
            rintro _ c20841 a' w20820 ⟨l20821, A20822, cap20823, fp20824, fr20826, x20827, rfl, hF20828, F20829, F20830, F20831, F20832, F20833, F20834, G20835, D20836, hB, hZ⟩ hx20842
            refine Fr.goOn hF20828 (by kernel_rfl) ?_
            have hm := hx20842
            unfold m_spec_l07All_bimplWiring_s117 at hm
            refine cW_seq ?_
            refine cW_seq ?_
            refine cW_region ?_
            refine wS_pure 2 [(28, .bool (decide (x20827 < 2))), (27, .int .i64 (x20827))] (by kernel_rfl) ?_
            refine wS_end (by rfl) ?_
            refine eX_then ?_
            refine cW_cond (t := decide (x20827 < 2)) (by kernel_rfl) (fun hb20843 => ?_) (fun hb20843 => ?_)
            · have hm := condT hb20843 hm
              refine cW_skip ?_
              refine eX_then ?_
              refine cW_seq ?_
              refine cW_block ?_
              obtain ⟨s21235, hs21236, hm⟩ := bindE hm
              refine cW_cut (fun a' w' => ∃ l21220 : List (List (Int)), ∃ A21221 : Option Addr, ∃ cap21222 : Nat, ∃ fp21223 : List Nat, ∃ fr21225 : List Nat, l21220 = s21235 ∧ Fr 88 [(0, .pointer (some ⟨b0, 0, none⟩)), (3, .slice A14413 (l14412).length cap14414), (4, .int .i64 (x14418)), (5, .slice A21221 (l21220).length cap21222), (6, .int .i64 (x19226)), (7, .int .i64 (x20827))] a' ∧ SlR 1 encI w' fp0_1 A0_1 l0_1 ∧ SlR 1 encI w' fp0_2 A0_2 l0_2 ∧ Sl 1 encI w' fp0_3 A0_3 l0_3 ∧ Cl w' b0 27 [.int .i64 (q0_0), .slice A0_1 (l0_1).length cap0_1, .slice A0_2 (l0_2).length cap0_2, .slice A0_3 (l0_3).length cap0_3] ∧ OwR 1 encI 25 2 w' fp14415 fr14417 A14413 cap14414 l14412 ∧ OwR 1 encI 25 2 w' fp21223 fr21225 A21221 cap21222 l21220 ∧ (∀ x ∈ (fp21223 ++ fr21225), w0.heap.size ≤ x) ∧ Dj (fp14415 ++ fr14417) (fp21223 ++ fr21225) ∧ Chg [] w0 w' ∧ w0.heap.size ≤ w'.heap.size) ?_ ?_
              · have hm := hs21236
                refine cW_seq ?_
                refine cW_region ?_
                refine wS_pure 3 [(33, .pointer (some ⟨b0, 3, none⟩)), (32, .pointer (some ⟨b0, 0, none⟩)), (31, .pointer (some ⟨b0, 0, none⟩))] (by kernel_rfl) ?_
                refine wS_load1 (d := 34) (T := 25) (ad := ⟨b0, 3, none⟩) (v := .slice A0_3 (l0_3).length cap0_3) (by kernel_rfl) vt25 ((F20832).cell 3) ?_
                refine wS_pure 1 [(35, .int .i64 (x14418))] (by kernel_rfl) ?_
                obtain ⟨x21237, hx21238, hm⟩ := bindE hm
                refine wS_idx (d := 36) (T := 25) (A := A0_3) (n := (l0_3).length) (cap := cap0_3) (kd := .i64) (m := x14418) (by kernel_rfl) sl25 (F20831.is hx21238) ?_
                refine wS_load1 (d := 37) (T := 2) (ad := (elA A0_3 1 (x14418) 0)) (v := .int .i64 (x21237)) (by kernel_rfl) vt2 (Sl.cell F20831 hx21238 0 (by rfl)) ?_
                refine wS_pure 2 [(39, .bool (decide (x21237 < 0))), (38, .bool (decide (x21237 < 0)))] (by kernel_rfl) ?_
                refine wS_bool (decide (x21237 < 0)) (fun hb21239 => ?_) (fun hb21239 => ?_)
                · have hm := condT hb21239 hm
                  rewrite [hb21239]
                  refine wS_pure 11 [(8, .bool (true)), (49, .bool (true)), (48, undef), (47, undef), (46, undef), (45, undef), (44, undef), (43, undef), (42, undef), (41, undef), (40, undef)] (by kernel_rfl) ?_
                  refine wS_end (by rfl) ?_
                  refine eX_then ?_
                  refine cW_prune [(0, .pointer (some ⟨b0, 0, none⟩)), (3, .slice A14413 (l14412).length cap14414), (4, .int .i64 (x14418)), (5, .slice A20822 (l20821).length cap20823), (6, .int .i64 (x19226)), (7, .int .i64 (x20827)), (8, .bool (true))] (by kernel_rfl) (by kernel_rfl) (fun a21240 => ?_)
                  refine cW_seq ?_
                  refine cW_seq ?_
                  refine cW_region ?_
                  refine wS_pure 1 [(9, .int .i64 (0))] (by kernel_rfl) ?_
                  refine wS_end (by rfl) ?_
                  refine eX_then ?_
                  obtain ⟨r21320, hr21321, hm⟩ := bindE hm
                  have hm21322 := hm
                  refine cW_cut (fun a' w' => ∃ x21302 : Bool, x21302 = r21320 ∧ Fr 88 [(0, .pointer (some ⟨b0, 0, none⟩)), (3, .slice A14413 (l14412).length cap14414), (4, .int .i64 (x14418)), (5, .slice A20822 (l20821).length cap20823), (6, .int .i64 (x19226)), (7, .int .i64 (x20827)), (8, .bool (x21302))] a' ∧ SlR 1 encI w' fp0_1 A0_1 l0_1 ∧ SlR 1 encI w' fp0_2 A0_2 l0_2 ∧ Sl 1 encI w' fp0_3 A0_3 l0_3 ∧ Cl w' b0 27 [.int .i64 (q0_0), .slice A0_1 (l0_1).length cap0_1, .slice A0_2 (l0_2).length cap0_2, .slice A0_3 (l0_3).length cap0_3] ∧ OwR 1 encI 25 2 w' fp14415 fr14417 A14413 cap14414 l14412 ∧ OwR 1 encI 25 2 w' fp20824 fr20826 A20822 cap20823 l20821 ∧ Chg [] w0 w' ∧ w0.heap.size ≤ w'.heap.size) ?_ ?_
                  · refine cW_block ?_
                    refine cW_loop _ (fun (s21323 : Bool × Int) a' w' => ∃ x21311 : Bool, ∃ x21312 : Int, (x21311, x21312) = s21323 ∧ Fr 88 [(0, .pointer (some ⟨b0, 0, none⟩)), (3, .slice A14413 (l14412).length cap14414), (4, .int .i64 (x14418)), (5, .slice A20822 (l20821).length cap20823), (6, .int .i64 (x19226)), (7, .int .i64 (x20827)), (8, .bool (x21311)), (9, .int .i64 (x21312))] a' ∧ SlR 1 encI w' fp0_1 A0_1 l0_1 ∧ SlR 1 encI w' fp0_2 A0_2 l0_2 ∧ Sl 1 encI w' fp0_3 A0_3 l0_3 ∧ Cl w' b0 27 [.int .i64 (q0_0), .slice A0_1 (l0_1).length cap0_1, .slice A0_2 (l0_2).length cap0_2, .slice A0_3 (l0_3).length cap0_3] ∧ OwR 1 encI 25 2 w' fp14415 fr14417 A14413 cap14414 l14412 ∧ OwR 1 encI 25 2 w' fp20824 fr20826 A20822 cap20823 l20821 ∧ Chg [] w0 w' ∧ w0.heap.size ≤ w'.heap.size) hr21321 (fun hst => ⟨true, 0, rfl, Fr.of hst (by kernel_rfl), F20829, F20830, F20831, F20832, F20833, F20834, hB, hZ⟩) ?_
                    rintro _ c21324 a' w21310 ⟨x21311, x21312, rfl, hF21313, F21314, F21315, F21316, F21317, F21318, F21319, hB, hZ⟩ hx21325
                    refine Fr.goOn hF21313 (by kernel_rfl) ?_
                    have hm := hx21325
                    unfold m_spec_l07All_bimplWiring_s120 at hm
                    refine cW_seq ?_
                    refine cW_seq ?_
                    refine cW_region ?_
                    refine wS_pure 3 [(52, .bool (decide (x21312 < x14418))), (51, .int .i64 (x14418)), (50, .int .i64 (x21312))] (by kernel_rfl) ?_
                    refine wS_end (by rfl) ?_
                    refine eX_then ?_
                    refine cW_cond (t := decide (x21312 < x14418)) (by kernel_rfl) (fun hb21326 => ?_) (fun hb21326 => ?_)
                    · have hm := condT hb21326 hm
                      refine cW_skip ?_
                      refine eX_then ?_
                      refine cW_seq ?_
                      refine cW_block ?_
                      refine cW_region ?_
                      refine wS_pure 2 [(56, .bool (x21311)), (55, .bool (x21311))] (by kernel_rfl) ?_
                      refine wS_bool x21311 (fun hb21327 => ?_) (fun hb21327 => ?_)
                      · have hm := condT hb21327 hm
                        subst hb21327
                        refine wS_pure 2 [(58, .int .i64 (x19226)), (57, .slice A14413 (l14412).length cap14414)] (by kernel_rfl) ?_
                        obtain ⟨x21328, hx21329, hm⟩ := bindE hm
                        refine wS_idx (d := 59) (T := 24) (A := A14413) (n := (l14412).length) (cap := cap14414) (kd := .i64) (m := x19226) (by kernel_rfl) sl24 ((F21318.slr encI_ok).is hx21329) ?_
                        obtain ⟨A21330, cap21331, hc21333, F21332, K21334⟩ := OwR.row F21318 encI_ok hx21329
                        have G21336 := low_inr G14425
                        have Dm21337 := (F21318.dj).symm
                        refine wS_load1 (d := 60) (T := 25) (ad := (elA A14413 1 (x19226) 0)) (v := .slice A21330 (x21328).length cap21331) (by kernel_rfl) vt25 hc21333 ?_
                        refine wS_pure 1 [(61, .int .i64 (x21312))] (by kernel_rfl) ?_
                        obtain ⟨x21338, hx21339, hm⟩ := bindE hm
                        refine wS_idx (d := 62) (T := 25) (A := A21330) (n := (x21328).length) (cap := cap21331) (kd := .i64) (m := x21312) (by kernel_rfl) sl25 (F21332.is hx21339) ?_
                        refine wS_load1 (d := 63) (T := 2) (ad := (elA A21330 1 (x21312) 0)) (v := .int .i64 (x21338)) (by kernel_rfl) vt2 (Sl.cell F21332 hx21339 0 (by rfl)) ?_
                        refine wS_pure 3 [(66, .bool (x21338 != x20827)), (65, .bool (x21338 != x20827)), (64, .int .i64 (x20827))] (by kernel_rfl) ?_
                        refine wS_bool (x21338 != x20827) (fun hb21340 => ?_) (fun hb21340 => ?_)
                        · have hm := condT hb21340 hm
                          rewrite [hb21340]
                          refine wS_pure 8 [(8, .bool (true)), (73, .bool (true)), (72, .bool (true)), (71, undef), (70, undef), (69, undef), (68, undef), (67, undef)] (by kernel_rfl) ?_
                          refine wS_end (by rfl) ?_
                          refine eX_block ?_
                          refine eX_then ?_
                          refine cW_prune [(0, .pointer (some ⟨b0, 0, none⟩)), (3, .slice A14413 (l14412).length cap14414), (4, .int .i64 (x14418)), (5, .slice A20822 (l20821).length cap20823), (6, .int .i64 (x19226)), (7, .int .i64 (x20827)), (8, .bool (true)), (9, .int .i64 (x21312))] (by kernel_rfl) (by kernel_rfl) (fun a21341 => ?_)
                          refine cW_region ?_
                          refine wS_pure 3 [(9, .int .i64 (wr (x21312 + 1))), (54, .int .i64 (wr (x21312 + 1))), (53, .int .i64 (x21312))] (by kernel_rfl) ?_
                          refine wS_end (by rfl) ?_
                          have hq : (some (Ctl.next ((true, wr (x21312 + 1)))) : Option (Ctl (Bool × Int) (Bool))) = some _ := hm
                          replace hq := someE hq
                          subst hq
                          exact eX_next hx21325 (fun hst => ⟨true, wr (x21312 + 1), rfl, Fr.of hst (by kernel_rfl), F21314, F21315, F21316, F21317, F21318, F21319, hB, hZ⟩)
                        · have hm := condF hb21340 hm
                          rewrite [hb21340]
                          refine wS_pure 3 [(69, .int .i64 (x14418)), (68, .int .i64 (x21312)), (67, .pointer (some ⟨b0, 0, none⟩))] (by kernel_rfl) ?_
                          obtain ⟨y21342, hy21343, hm⟩ := bindE hm
                          refine wS_calls (d := 70) (f := 120) (vs := [.pointer (some ⟨b0, 0, none⟩), .int .i64 (x21312), .int .i64 (x14418)]) (by kernel_rfl) ent120 (c_spec_l07Cross_bimplWiring hy21343 F21314 F21315 F21316 F21317) ?_
                          rintro _ w21344 ⟨rfl, hc21345⟩
                          replace F21314 := F21314.chg hc21345 Dj.nil
                          replace F21315 := F21315.chg hc21345 Dj.nil
                          replace F21316 := F21316.chg hc21345 Dj.nil
                          replace F21317 := F21317.chg hc21345 notNil
                          replace F21318 := F21318.chg hc21345 Dj.nil
                          replace F21319 := F21319.chg hc21345 Dj.nil
                          replace F21332 := F21332.chg hc21345 Dj.nil
                          have hc21346 := hc21345.keep hc21333
                          replace hB := hB.inS hc21345 inNil
                          replace hZ := Nat.le_trans hZ hc21345.size
                          refine ⟨.bool (y21342), rfl, ?_⟩
                          refine wS_pure 4 [(8, .bool (!y21342)), (73, .bool (!y21342)), (72, .bool (!y21342)), (71, .bool (!y21342))] (by kernel_rfl) ?_
                          refine wS_end (by rfl) ?_
                          refine eX_block ?_
                          refine eX_then ?_
                          refine cW_prune [(0, .pointer (some ⟨b0, 0, none⟩)), (3, .slice A14413 (l14412).length cap14414), (4, .int .i64 (x14418)), (5, .slice A20822 (l20821).length cap20823), (6, .int .i64 (x19226)), (7, .int .i64 (x20827)), (8, .bool (!y21342)), (9, .int .i64 (x21312))] (by kernel_rfl) (by kernel_rfl) (fun a21347 => ?_)
                          refine cW_region ?_
                          refine wS_pure 3 [(9, .int .i64 (wr (x21312 + 1))), (54, .int .i64 (wr (x21312 + 1))), (53, .int .i64 (x21312))] (by kernel_rfl) ?_
                          refine wS_end (by rfl) ?_
                          have hq : (some (Ctl.next ((!y21342, wr (x21312 + 1)))) : Option (Ctl (Bool × Int) (Bool))) = some _ := hm
                          replace hq := someE hq
                          subst hq
                          exact eX_next hx21325 (fun hst => ⟨!y21342, wr (x21312 + 1), rfl, Fr.of hst (by kernel_rfl), F21314, F21315, F21316, F21317, F21318, F21319, hB, hZ⟩)
                      · have hm := condF hb21327 hm
                        subst hb21327
                        refine wS_pure 18 [(8, .bool (false)), (73, .bool (false)), (72, undef), (71, undef), (70, undef), (69, undef), (68, undef), (67, undef), (66, undef), (65, undef), (64, undef), (63, undef), (62, undef), (61, undef), (60, undef), (59, undef), (58, undef), (57, undef)] (by kernel_rfl) ?_
                        refine wS_end (by rfl) ?_
                        refine eX_block ?_
                        refine eX_then ?_
                        refine cW_prune [(0, .pointer (some ⟨b0, 0, none⟩)), (3, .slice A14413 (l14412).length cap14414), (4, .int .i64 (x14418)), (5, .slice A20822 (l20821).length cap20823), (6, .int .i64 (x19226)), (7, .int .i64 (x20827)), (8, .bool (false)), (9, .int .i64 (x21312))] (by kernel_rfl) (by kernel_rfl) (fun a21348 => ?_)
                        refine cW_region ?_
                        refine wS_pure 3 [(9, .int .i64 (wr (x21312 + 1))), (54, .int .i64 (wr (x21312 + 1))), (53, .int .i64 (x21312))] (by kernel_rfl) ?_
                        refine wS_end (by rfl) ?_
                        have hq : (some (Ctl.next ((false, wr (x21312 + 1)))) : Option (Ctl (Bool × Int) (Bool))) = some _ := hm
                        replace hq := someE hq
                        subst hq
                        exact eX_next hx21325 (fun hst => ⟨false, wr (x21312 + 1), rfl, Fr.of hst (by kernel_rfl), F21314, F21315, F21316, F21317, F21318, F21319, hB, hZ⟩)
                    · have hm := condF hb21326 hm
                      refine cW_exit ?_
                      refine eX_then_exit ?_
                      have hq : (some (Ctl.out x21311) : Option (Ctl (Bool × Int) (Bool))) = some _ := hm
                      replace hq := someE hq
                      subst hq
                      refine eX_outX hx21325 (fun hr21349 => ?_)
                      replace hr21349 := hr21349.symm
                      subst hr21349
                      refine eX_block_hit ?_
                      exact eX_J (fun hst => ⟨x21311, rfl, Fr.of hst (by kernel_rfl), F21314, F21315, F21316, F21317, F21318, F21319, hB, hZ⟩)
                  · rintro a' w21301 ⟨x21302, hJ, hF21303, F21304, F21305, F21306, F21307, F21308, F21309, hB, hZ⟩
                    subst hJ
                    refine Fr.goX hF21303 (by kernel_rfl) ?_
                    refine eX_then ?_
                    refine cW_seq ?_
                    refine cW_region ?_
                    refine wS_pure 1 [(74, .bool (x21302))] (by kernel_rfl) ?_
                    refine wS_end (by rfl) ?_
                    refine eX_then ?_
                    refine cW_cond (t := x21302) (by kernel_rfl) (fun hb21350 => ?_) (fun hb21350 => ?_)
                    · have hm := condT hb21350 hm
                      refine cW_region ?_
                      refine wS_pure 3 [(77, .int .i64 (x19226)), (76, .slice A14413 (l14412).length cap14414), (75, .slice A20822 (l20821).length cap20823)] (by kernel_rfl) ?_
                      obtain ⟨x21351, hx21352, hm⟩ := bindE hm
                      refine wS_idx (d := 78) (T := 24) (A := A14413) (n := (l14412).length) (cap := cap14414) (kd := .i64) (m := x19226) (by kernel_rfl) sl24 ((F21308.slr encI_ok).is hx21352) ?_
                      obtain ⟨A21353, cap21354, hc21356, F21355, K21357⟩ := OwR.row F21308 encI_ok hx21352
                      have G21359 := low_inr G14425
                      have Dm21360 := (F21308.dj).symm
                      refine wS_load1 (d := 79) (T := 25) (ad := (elA A14413 1 (x19226) 0)) (v := .slice A21353 (x21351).length cap21354) (by kernel_rfl) vt25 hc21356 ?_
                      obtain ⟨y21361, hy21362, hm⟩ := bindE hm
                      refine wS_calls (d := 80) (f := 88) (vs := [.slice A21353 (x21351).length cap21354]) (by kernel_rfl) ent88 (c_spec_l00Own hy21362 F21355) ?_
                      rintro _ w21363 ⟨A21365, cap21366, fp21367, rfl, F21368, G21369, hc21364⟩
                      have D21372 : Dj (fp14415 ++ fr14417) fp21367 := Dj.of F21308.low G21369
                      have D21373 : Dj (fp20824 ++ fr20826) fp21367 := Dj.of F21309.low G21369
                      have D21374 : Dj fr14417 fp21367 := Dj.of F21355.low G21369
                      replace F21304 := F21304.chg hc21364 Dj.nil
                      replace F21305 := F21305.chg hc21364 Dj.nil
                      replace F21306 := F21306.chg hc21364 Dj.nil
                      replace F21307 := F21307.chg hc21364 notNil
                      replace F21308 := F21308.chg hc21364 Dj.nil
                      replace F21309 := F21309.chg hc21364 Dj.nil
                      replace F21355 := F21355.chg hc21364 Dj.nil
                      have hc21375 := hc21364.keep hc21356
                      replace hB := hB.inS hc21364 inNil
                      replace G21369 := low_le hZ G21369
                      replace hZ := Nat.le_trans hZ hc21364.size
                      refine ⟨.slice A21365 (y21361).length cap21366, rfl, ?_⟩
                      refine wS_pure 1 [(81, .int .i64 (x20827))] (by kernel_rfl) ?_
                      refine wS_bs (enc := encI) ([x20827] : List (Int)) [.int .i64 (x20827)] (d := 82) (t := 25) (T := 2) (n := 1) (ps := [(0, .int .i64 (x20827))]) (by kernel_rfl) el25 encI_ok (by rfl) (by omega) (by omega) (by kernel_rfl) (by rfl) ?_
                      intro b21376 w21377 G21378 F21379 hc21380
                      have D21382 : Dj (fp14415 ++ fr14417) [b21376] := Dj.of F21308.low (low1 G21378)
                      have D21383 : Dj (fp20824 ++ fr20826) [b21376] := Dj.of F21309.low (low1 G21378)
                      have D21384 : Dj fr14417 [b21376] := Dj.of F21355.low (low1 G21378)
                      have D21385 : Dj fp21367 [b21376] := Dj.of F21368.low (low1 G21378)
                      replace F21304 := F21304.chg hc21380 Dj.nil
                      replace F21305 := F21305.chg hc21380 Dj.nil
                      replace F21306 := F21306.chg hc21380 Dj.nil
                      replace F21307 := F21307.chg hc21380 notNil
                      replace F21308 := F21308.chg hc21380 Dj.nil
                      replace F21309 := F21309.chg hc21380 Dj.nil
                      replace F21355 := F21355.chg hc21380 Dj.nil
                      replace F21368 := F21368.chg hc21380 Dj.nil
                      have hc21386 := hc21380.keep hc21375
                      replace hB := hB.inS hc21380 inNil
                      replace G21378 := Nat.le_trans hZ G21378
                      replace G21378 := low1 G21378
                      replace hZ := Nat.le_trans hZ hc21380.size
                      obtain ⟨_, hk21387, hm⟩ := bindE hm
                      replace hk21387 := apE hk21387
                      refine wS_append (enc := encI) (l := (y21361 : List (Int))) (l2 := (([x20827] : List (Int)) : List (Int))) (d := 83) (t := 25) (T := 2) (A := A21365) (A2 := (some ⟨b21376, 0, none⟩)) (cap := cap21366) (cap2 := 1) (by kernel_rfl) el25 encI_ok F21368 (F21379.sl encI_ok) (by rfl) hk21387 ?_
                      intro w21388 fp21389 A21390 cap21391 F21392 hc21393 hp21394
                      have G21396 := low_ap G21369 hZ hp21394
                      have D21397 : Dj (fp14415 ++ fr14417) fp21389 := Dj.ap D21372 F21308.low hp21394
                      have D21398 : Dj (fp20824 ++ fr20826) fp21389 := Dj.ap D21373 F21309.low hp21394
                      have D21399 : Dj fr14417 fp21389 := Dj.ap D21374 F21355.low hp21394
                      have D21400 : Dj [b21376] fp21389 := Dj.ap (D21385).symm F21379.low hp21394
                      replace F21304 := F21304.chg hc21393 (Dj.of L0_1 G21369)
                      replace F21305 := F21305.chg hc21393 (Dj.of L0_2 G21369)
                      replace F21306 := F21306.chg hc21393 (Dj.of L0_3 G21369)
                      replace F21307 := F21307.chg hc21393 (dj1 (Dj.of L0 G21369))
                      replace F21308 := F21308.chg hc21393 D21372
                      replace F21309 := F21309.chg hc21393 D21373
                      replace F21355 := F21355.chg hc21393 D21374
                      replace F21379 := F21379.chg hc21393 (D21385).symm
                      replace hB := hB.inS hc21393 (inLow G21369)
                      replace hZ := Nat.le_trans hZ hc21393.size
                      refine wS_row1 (k := 1) (enc := encI) (l := y21361 ++ (([x20827] : List (Int)))) (d := 84) (t := 24) (T := 25) (B := A21390) (c := cap21391) (by kernel_rfl) el24 F21392 ?_
                      intro b21401 w21402 G21403 F21404 hc21405
                      have D21407 : Dj (fp14415 ++ fr14417) ([b21401] ++ fp21389) := Dj.app (Dj.of F21308.low (low1 G21403)) D21397
                      have D21408 : Dj (fp20824 ++ fr20826) ([b21401] ++ fp21389) := Dj.app (Dj.of F21309.low (low1 G21403)) D21398
                      have D21409 : Dj fr14417 ([b21401] ++ fp21389) := Dj.app (Dj.of F21355.low (low1 G21403)) D21399
                      have D21410 : Dj [b21376] ([b21401] ++ fp21389) := Dj.app (Dj.of F21379.low (low1 G21403)) D21400
                      replace F21304 := F21304.chg hc21405 Dj.nil
                      replace F21305 := F21305.chg hc21405 Dj.nil
                      replace F21306 := F21306.chg hc21405 Dj.nil
                      replace F21307 := F21307.chg hc21405 notNil
                      replace F21308 := F21308.chg hc21405 Dj.nil
                      replace F21309 := F21309.chg hc21405 Dj.nil
                      replace F21355 := F21355.chg hc21405 Dj.nil
                      replace F21379 := F21379.chg hc21405 Dj.nil
                      replace F21392 := F21392.chg hc21405 Dj.nil
                      replace hB := hB.inS hc21405 inNil
                      replace G21403 := Nat.le_trans hZ G21403
                      replace G21403 := lowApp (low1 G21403) G21396
                      replace hZ := Nat.le_trans hZ hc21405.size
                      replace F21392 := (F21392.sl encI_ok)
                      obtain ⟨_, hk21411, hm⟩ := bindE hm
                      replace hk21411 := apE hk21411
                      refine wS_appendR (k := 1) (enc := encI) (ll := (l20821 : List (List (Int)))) (ll2 := (([y21361 ++ (([x20827] : List (Int)))] : List (List (Int))) : List (List (Int)))) (d := 85) (t := 24) (T := 25) (A := A20822) (A2 := (some ⟨b21401, 0, none⟩)) (cap := cap20823) (cap2 := 1) (by kernel_rfl) el24 F21309 F21404 (by rfl) D21408 hk21411 ?_
                      intro w21412 fp21413 A21414 cap21415 F21416 hc21417 hp21418
                      have G21420 := lowApp (low_ap (low_inl G20835) hZ hp21418) (lowApp (low_inr G20835) (low_inr G21403))
                      have D21421 : Dj (fp14415 ++ fr14417) (fp21413 ++ (fr20826 ++ fp21389)) := Dj.app (Dj.ap (Dj.inl D20836) F21308.low hp21418) (Dj.app (Dj.inr D20836) (Dj.inr D21407))
                      have D21422 : Dj fr14417 (fp21413 ++ (fr20826 ++ fp21389)) := Dj.app (Dj.ap (Dj.inl ((Dj.inr (D20836).symm)).symm) F21355.low hp21418) (Dj.app (Dj.inr ((Dj.inr (D20836).symm)).symm) (Dj.inr D21409))
                      have D21423 : Dj [b21376] (fp21413 ++ (fr20826 ++ fp21389)) := Dj.app (Dj.ap (Dj.inl (D21383).symm) F21379.low hp21418) (Dj.app (Dj.inr (D21383).symm) (Dj.inr D21410))
                      replace F21304 := F21304.chg hc21417 (Dj.inl (Dj.of L0_1 G20835))
                      replace F21305 := F21305.chg hc21417 (Dj.inl (Dj.of L0_2 G20835))
                      replace F21306 := F21306.chg hc21417 (Dj.inl (Dj.of L0_3 G20835))
                      replace F21307 := F21307.chg hc21417 (dj1 (Dj.inl (Dj.of L0 G20835)))
                      replace F21308 := F21308.chg hc21417 (Dj.inl D20836)
                      replace F21355 := F21355.chg hc21417 (Dj.inl ((Dj.inr (D20836).symm)).symm)
                      replace F21379 := F21379.chg hc21417 (Dj.inl (D21383).symm)
                      replace hB := hB.inS hc21417 (memS_inl (inLow G20835))
                      replace hZ := Nat.le_trans hZ hc21417.size
                      refine wS_pure 1 [(5, .slice A21414 (l20821 ++ (([y21361 ++ (([x20827] : List (Int)))] : List (List (Int))))).length cap21415)] (by kernel_rfl) ?_
                      refine wS_end (by rfl) ?_
                      have hq : (some (l20821 ++ (([y21361 ++ (([x20827] : List (Int)))] : List (List (Int))))) : Option ((List (List (Int))))) = some _ := hm
                      replace hq := someE hq
                      subst hq
                      exact eX_J (fun hst => ⟨l20821 ++ (([y21361 ++ (([x20827] : List (Int)))] : List (List (Int)))), A21414, cap21415, fp21413, (fr20826 ++ fp21389), rfl, Fr.of hst (by kernel_rfl), F21304, F21305, F21306, F21307, F21308, F21416, G21420, D21421, hB, hZ⟩)
                    · have hm := condF hb21350 hm
                      refine cW_skip ?_
                      have hq : (some l20821 : Option ((List (List (Int))))) = some _ := hm
                      replace hq := someE hq
                      subst hq
                      exact eX_J (fun hst => ⟨l20821, A20822, cap20823, fp20824, fr20826, rfl, Fr.of hst (by kernel_rfl), F21304, F21305, F21306, F21307, F21308, F21309, G20835, D20836, hB, hZ⟩)
                · have hm := condF hb21239 hm
                  rewrite [hb21239]
                  refine wS_pure 3 [(42, .pointer (some ⟨b0, 3, none⟩)), (41, .pointer (some ⟨b0, 0, none⟩)), (40, .pointer (some ⟨b0, 0, none⟩))] (by kernel_rfl) ?_
                  refine wS_load1 (d := 43) (T := 25) (ad := ⟨b0, 3, none⟩) (v := .slice A0_3 (l0_3).length cap0_3) (by kernel_rfl) vt25 ((F20832).cell 3) ?_
                  refine wS_pure 1 [(44, .int .i64 (x14418))] (by kernel_rfl) ?_
                  obtain ⟨x21424, hx21425, hm⟩ := bindE hm
                  refine wS_idx (d := 45) (T := 25) (A := A0_3) (n := (l0_3).length) (cap := cap0_3) (kd := .i64) (m := x14418) (by kernel_rfl) sl25 (F20831.is hx21425) ?_
                  refine wS_load1 (d := 46) (T := 2) (ad := (elA A0_3 1 (x14418) 0)) (v := .int .i64 (x21424)) (by kernel_rfl) vt2 (Sl.cell F20831 hx21425 0 (by rfl)) ?_
                  refine wS_pure 4 [(8, .bool (x21424 == x20827)), (49, .bool (x21424 == x20827)), (48, .bool (x21424 == x20827)), (47, .int .i64 (x20827))] (by kernel_rfl) ?_
                  refine wS_end (by rfl) ?_
                  refine eX_then ?_
                  refine cW_prune [(0, .pointer (some ⟨b0, 0, none⟩)), (3, .slice A14413 (l14412).length cap14414), (4, .int .i64 (x14418)), (5, .slice A20822 (l20821).length cap20823), (6, .int .i64 (x19226)), (7, .int .i64 (x20827)), (8, .bool (x21424 == x20827))] (by kernel_rfl) (by kernel_rfl) (fun a21426 => ?_)
                  refine cW_seq ?_
                  refine cW_seq ?_
                  refine cW_region ?_
                  refine wS_pure 1 [(9, .int .i64 (0))] (by kernel_rfl) ?_
                  refine wS_end (by rfl) ?_
                  refine eX_then ?_
                  obtain ⟨r21508, hr21509, hm⟩ := bindE hm
                  have hm21510 := hm
                  refine cW_cut (fun a' w' => ∃ x21490 : Bool, x21490 = r21508 ∧ Fr 88 [(0, .pointer (some ⟨b0, 0, none⟩)), (3, .slice A14413 (l14412).length cap14414), (4, .int .i64 (x14418)), (5, .slice A20822 (l20821).length cap20823), (6, .int .i64 (x19226)), (7, .int .i64 (x20827)), (8, .bool (x21490))] a' ∧ SlR 1 encI w' fp0_1 A0_1 l0_1 ∧ SlR 1 encI w' fp0_2 A0_2 l0_2 ∧ Sl 1 encI w' fp0_3 A0_3 l0_3 ∧ Cl w' b0 27 [.int .i64 (q0_0), .slice A0_1 (l0_1).length cap0_1, .slice A0_2 (l0_2).length cap0_2, .slice A0_3 (l0_3).length cap0_3] ∧ OwR 1 encI 25 2 w' fp14415 fr14417 A14413 cap14414 l14412 ∧ OwR 1 encI 25 2 w' fp20824 fr20826 A20822 cap20823 l20821 ∧ Chg [] w0 w' ∧ w0.heap.size ≤ w'.heap.size) ?_ ?_
                  · refine cW_block ?_
                    refine cW_loop _ (fun (s21511 : Bool × Int) a' w' => ∃ x21499 : Bool, ∃ x21500 : Int, (x21499, x21500) = s21511 ∧ Fr 88 [(0, .pointer (some ⟨b0, 0, none⟩)), (3, .slice A14413 (l14412).length cap14414), (4, .int .i64 (x14418)), (5, .slice A20822 (l20821).length cap20823), (6, .int .i64 (x19226)), (7, .int .i64 (x20827)), (8, .bool (x21499)), (9, .int .i64 (x21500))] a' ∧ SlR 1 encI w' fp0_1 A0_1 l0_1 ∧ SlR 1 encI w' fp0_2 A0_2 l0_2 ∧ Sl 1 encI w' fp0_3 A0_3 l0_3 ∧ Cl w' b0 27 [.int .i64 (q0_0), .slice A0_1 (l0_1).length cap0_1, .slice A0_2 (l0_2).length cap0_2, .slice A0_3 (l0_3).length cap0_3] ∧ OwR 1 encI 25 2 w' fp14415 fr14417 A14413 cap14414 l14412 ∧ OwR 1 encI 25 2 w' fp20824 fr20826 A20822 cap20823 l20821 ∧ Chg [] w0 w' ∧ w0.heap.size ≤ w'.heap.size) hr21509 (fun hst => ⟨x21424 == x20827, 0, rfl, Fr.of hst (by kernel_rfl), F20829, F20830, F20831, F20832, F20833, F20834, hB, hZ⟩) ?_
                    rintro _ c21512 a' w21498 ⟨x21499, x21500, rfl, hF21501, F21502, F21503, F21504, F21505, F21506, F21507, hB, hZ⟩ hx21513
                    refine Fr.goOn hF21501 (by kernel_rfl) ?_
                    have hm := hx21513
                    unfold m_spec_l07All_bimplWiring_s121 at hm
                    refine cW_seq ?_
                    refine cW_seq ?_
                    refine cW_region ?_
                    refine wS_pure 3 [(52, .bool (decide (x21500 < x14418))), (51, .int .i64 (x14418)), (50, .int .i64 (x21500))] (by kernel_rfl) ?_
                    refine wS_end (by rfl) ?_
                    refine eX_then ?_
                    refine cW_cond (t := decide (x21500 < x14418)) (by kernel_rfl) (fun hb21514 => ?_) (fun hb21514 => ?_)
                    · have hm := condT hb21514 hm
                      refine cW_skip ?_
                      refine eX_then ?_
                      refine cW_seq ?_
                      refine cW_block ?_
                      refine cW_region ?_
                      refine wS_pure 2 [(56, .bool (x21499)), (55, .bool (x21499))] (by kernel_rfl) ?_
                      refine wS_bool x21499 (fun hb21515 => ?_) (fun hb21515 => ?_)
                      · have hm := condT hb21515 hm
                        subst hb21515
                        refine wS_pure 2 [(58, .int .i64 (x19226)), (57, .slice A14413 (l14412).length cap14414)] (by kernel_rfl) ?_
                        obtain ⟨x21516, hx21517, hm⟩ := bindE hm
                        refine wS_idx (d := 59) (T := 24) (A := A14413) (n := (l14412).length) (cap := cap14414) (kd := .i64) (m := x19226) (by kernel_rfl) sl24 ((F21506.slr encI_ok).is hx21517) ?_
                        obtain ⟨A21518, cap21519, hc21521, F21520, K21522⟩ := OwR.row F21506 encI_ok hx21517
                        have G21524 := low_inr G14425
                        have Dm21525 := (F21506.dj).symm
                        refine wS_load1 (d := 60) (T := 25) (ad := (elA A14413 1 (x19226) 0)) (v := .slice A21518 (x21516).length cap21519) (by kernel_rfl) vt25 hc21521 ?_
                        refine wS_pure 1 [(61, .int .i64 (x21500))] (by kernel_rfl) ?_
                        obtain ⟨x21526, hx21527, hm⟩ := bindE hm
                        refine wS_idx (d := 62) (T := 25) (A := A21518) (n := (x21516).length) (cap := cap21519) (kd := .i64) (m := x21500) (by kernel_rfl) sl25 (F21520.is hx21527) ?_
                        refine wS_load1 (d := 63) (T := 2) (ad := (elA A21518 1 (x21500) 0)) (v := .int .i64 (x21526)) (by kernel_rfl) vt2 (Sl.cell F21520 hx21527 0 (by rfl)) ?_
                        refine wS_pure 3 [(66, .bool (x21526 != x20827)), (65, .bool (x21526 != x20827)), (64, .int .i64 (x20827))] (by kernel_rfl) ?_
                        refine wS_bool (x21526 != x20827) (fun hb21528 => ?_) (fun hb21528 => ?_)
                        · have hm := condT hb21528 hm
                          rewrite [hb21528]
                          refine wS_pure 8 [(8, .bool (true)), (73, .bool (true)), (72, .bool (true)), (71, undef), (70, undef), (69, undef), (68, undef), (67, undef)] (by kernel_rfl) ?_
                          refine wS_end (by rfl) ?_
                          refine eX_block ?_
                          refine eX_then ?_
                          refine cW_prune [(0, .pointer (some ⟨b0, 0, none⟩)), (3, .slice A14413 (l14412).length cap14414), (4, .int .i64 (x14418)), (5, .slice A20822 (l20821).length cap20823), (6, .int .i64 (x19226)), (7, .int .i64 (x20827)), (8, .bool (true)), (9, .int .i64 (x21500))] (by kernel_rfl) (by kernel_rfl) (fun a21529 => ?_)
                          refine cW_region ?_
                          refine wS_pure 3 [(9, .int .i64 (wr (x21500 + 1))), (54, .int .i64 (wr (x21500 + 1))), (53, .int .i64 (x21500))] (by kernel_rfl) ?_
                          refine wS_end (by rfl) ?_
                          have hq : (some (Ctl.next ((true, wr (x21500 + 1)))) : Option (Ctl (Bool × Int) (Bool))) = some _ := hm
                          replace hq := someE hq
                          subst hq
                          exact eX_next hx21513 (fun hst => ⟨true, wr (x21500 + 1), rfl, Fr.of hst (by kernel_rfl), F21502, F21503, F21504, F21505, F21506, F21507, hB, hZ⟩)
                        · have hm := condF hb21528 hm
                          rewrite [hb21528]
                          refine wS_pure 3 [(69, .int .i64 (x14418)), (68, .int .i64 (x21500)), (67, .pointer (some ⟨b0, 0, none⟩))] (by kernel_rfl) ?_
                          obtain ⟨y21530, hy21531, hm⟩ := bindE hm
                          refine wS_calls (d := 70) (f := 120) (vs := [.pointer (some ⟨b0, 0, none⟩), .int .i64 (x21500), .int .i64 (x14418)]) (by kernel_rfl) ent120 (c_spec_l07Cross_bimplWiring hy21531 F21502 F21503 F21504 F21505) ?_
                          rintro _ w21532 ⟨rfl, hc21533⟩
                          replace F21502 := F21502.chg hc21533 Dj.nil
                          replace F21503 := F21503.chg hc21533 Dj.nil
                          replace F21504 := F21504.chg hc21533 Dj.nil
                          replace F21505 := F21505.chg hc21533 notNil
                          replace F21506 := F21506.chg hc21533 Dj.nil
                          replace F21507 := F21507.chg hc21533 Dj.nil
                          replace F21520 := F21520.chg hc21533 Dj.nil
                          have hc21534 := hc21533.keep hc21521
                          replace hB := hB.inS hc21533 inNil
                          replace hZ := Nat.le_trans hZ hc21533.size
                          refine ⟨.bool (y21530), rfl, ?_⟩
                          refine wS_pure 4 [(8, .bool (!y21530)), (73, .bool (!y21530)), (72, .bool (!y21530)), (71, .bool (!y21530))] (by kernel_rfl) ?_
                          refine wS_end (by rfl) ?_
                          refine eX_block ?_
                          refine eX_then ?_
                          refine cW_prune [(0, .pointer (some ⟨b0, 0, none⟩)), (3, .slice A14413 (l14412).length cap14414), (4, .int .i64 (x14418)), (5, .slice A20822 (l20821).length cap20823), (6, .int .i64 (x19226)), (7, .int .i64 (x20827)), (8, .bool (!y21530)), (9, .int .i64 (x21500))] (by kernel_rfl) (by kernel_rfl) (fun a21535 => ?_)
                          refine cW_region ?_
                          refine wS_pure 3 [(9, .int .i64 (wr (x21500 + 1))), (54, .int .i64 (wr (x21500 + 1))), (53, .int .i64 (x21500))] (by kernel_rfl) ?_
                          refine wS_end (by rfl) ?_
                          have hq : (some (Ctl.next ((!y21530, wr (x21500 + 1)))) : Option (Ctl (Bool × Int) (Bool))) = some _ := hm
                          replace hq := someE hq
                          subst hq
                          exact eX_next hx21513 (fun hst => ⟨!y21530, wr (x21500 + 1), rfl, Fr.of hst (by kernel_rfl), F21502, F21503, F21504, F21505, F21506, F21507, hB, hZ⟩)
                      · have hm := condF hb21515 hm
                        subst hb21515
                        refine wS_pure 18 [(8, .bool (false)), (73, .bool (false)), (72, undef), (71, undef), (70, undef), (69, undef), (68, undef), (67, undef), (66, undef), (65, undef), (64, undef), (63, undef), (62, undef), (61, undef), (60, undef), (59, undef), (58, undef), (57, undef)] (by kernel_rfl) ?_
                        refine wS_end (by rfl) ?_
                        refine eX_block ?_
                        refine eX_then ?_
                        refine cW_prune [(0, .pointer (some ⟨b0, 0, none⟩)), (3, .slice A14413 (l14412).length cap14414), (4, .int .i64 (x14418)), (5, .slice A20822 (l20821).length cap20823), (6, .int .i64 (x19226)), (7, .int .i64 (x20827)), (8, .bool (false)), (9, .int .i64 (x21500))] (by kernel_rfl) (by kernel_rfl) (fun a21536 => ?_)
                        refine cW_region ?_
                        refine wS_pure 3 [(9, .int .i64 (wr (x21500 + 1))), (54, .int .i64 (wr (x21500 + 1))), (53, .int .i64 (x21500))] (by kernel_rfl) ?_
                        refine wS_end (by rfl) ?_
                        have hq : (some (Ctl.next ((false, wr (x21500 + 1)))) : Option (Ctl (Bool × Int) (Bool))) = some _ := hm
                        replace hq := someE hq
                        subst hq
                        exact eX_next hx21513 (fun hst => ⟨false, wr (x21500 + 1), rfl, Fr.of hst (by kernel_rfl), F21502, F21503, F21504, F21505, F21506, F21507, hB, hZ⟩)
                    · have hm := condF hb21514 hm
                      refine cW_exit ?_
                      refine eX_then_exit ?_
                      have hq : (some (Ctl.out x21499) : Option (Ctl (Bool × Int) (Bool))) = some _ := hm
                      replace hq := someE hq
                      subst hq
                      refine eX_outX hx21513 (fun hr21537 => ?_)
                      replace hr21537 := hr21537.symm
                      subst hr21537
                      refine eX_block_hit ?_
                      exact eX_J (fun hst => ⟨x21499, rfl, Fr.of hst (by kernel_rfl), F21502, F21503, F21504, F21505, F21506, F21507, hB, hZ⟩)
                  · rintro a' w21489 ⟨x21490, hJ, hF21491, F21492, F21493, F21494, F21495, F21496, F21497, hB, hZ⟩
                    subst hJ
                    refine Fr.goX hF21491 (by kernel_rfl) ?_
                    refine eX_then ?_
                    refine cW_seq ?_
                    refine cW_region ?_
                    refine wS_pure 1 [(74, .bool (x21490))] (by kernel_rfl) ?_
                    refine wS_end (by rfl) ?_
                    refine eX_then ?_
                    refine cW_cond (t := x21490) (by kernel_rfl) (fun hb21538 => ?_) (fun hb21538 => ?_)
                    · have hm := condT hb21538 hm
                      refine cW_region ?_
                      refine wS_pure 3 [(77, .int .i64 (x19226)), (76, .slice A14413 (l14412).length cap14414), (75, .slice A20822 (l20821).length cap20823)] (by kernel_rfl) ?_
                      obtain ⟨x21539, hx21540, hm⟩ := bindE hm
                      refine wS_idx (d := 78) (T := 24) (A := A14413) (n := (l14412).length) (cap := cap14414) (kd := .i64) (m := x19226) (by kernel_rfl) sl24 ((F21496.slr encI_ok).is hx21540) ?_
                      obtain ⟨A21541, cap21542, hc21544, F21543, K21545⟩ := OwR.row F21496 encI_ok hx21540
                      have G21547 := low_inr G14425
                      have Dm21548 := (F21496.dj).symm
                      refine wS_load1 (d := 79) (T := 25) (ad := (elA A14413 1 (x19226) 0)) (v := .slice A21541 (x21539).length cap21542) (by kernel_rfl) vt25 hc21544 ?_
                      obtain ⟨y21549, hy21550, hm⟩ := bindE hm
                      refine wS_calls (d := 80) (f := 88) (vs := [.slice A21541 (x21539).length cap21542]) (by kernel_rfl) ent88 (c_spec_l00Own hy21550 F21543) ?_
                      rintro _ w21551 ⟨A21553, cap21554, fp21555, rfl, F21556, G21557, hc21552⟩
                      have D21560 : Dj (fp14415 ++ fr14417) fp21555 := Dj.of F21496.low G21557
                      have D21561 : Dj (fp20824 ++ fr20826) fp21555 := Dj.of F21497.low G21557
                      have D21562 : Dj fr14417 fp21555 := Dj.of F21543.low G21557
                      replace F21492 := F21492.chg hc21552 Dj.nil
                      replace F21493 := F21493.chg hc21552 Dj.nil
                      replace F21494 := F21494.chg hc21552 Dj.nil
                      replace F21495 := F21495.chg hc21552 notNil
                      replace F21496 := F21496.chg hc21552 Dj.nil
                      replace F21497 := F21497.chg hc21552 Dj.nil
                      replace F21543 := F21543.chg hc21552 Dj.nil
                      have hc21563 := hc21552.keep hc21544
                      replace hB := hB.inS hc21552 inNil
                      replace G21557 := low_le hZ G21557
                      replace hZ := Nat.le_trans hZ hc21552.size
                      refine ⟨.slice A21553 (y21549).length cap21554, rfl, ?_⟩
                      refine wS_pure 1 [(81, .int .i64 (x20827))] (by kernel_rfl) ?_
                      refine wS_bs (enc := encI) ([x20827] : List (Int)) [.int .i64 (x20827)] (d := 82) (t := 25) (T := 2) (n := 1) (ps := [(0, .int .i64 (x20827))]) (by kernel_rfl) el25 encI_ok (by rfl) (by omega) (by omega) (by kernel_rfl) (by rfl) ?_
                      intro b21564 w21565 G21566 F21567 hc21568
                      have D21570 : Dj (fp14415 ++ fr14417) [b21564] := Dj.of F21496.low (low1 G21566)
                      have D21571 : Dj (fp20824 ++ fr20826) [b21564] := Dj.of F21497.low (low1 G21566)
                      have D21572 : Dj fr14417 [b21564] := Dj.of F21543.low (low1 G21566)
                      have D21573 : Dj fp21555 [b21564] := Dj.of F21556.low (low1 G21566)
                      replace F21492 := F21492.chg hc21568 Dj.nil
                      replace F21493 := F21493.chg hc21568 Dj.nil
                      replace F21494 := F21494.chg hc21568 Dj.nil
                      replace F21495 := F21495.chg hc21568 notNil
                      replace F21496 := F21496.chg hc21568 Dj.nil
                      replace F21497 := F21497.chg hc21568 Dj.nil
                      replace F21543 := F21543.chg hc21568 Dj.nil
                      replace F21556 := F21556.chg hc21568 Dj.nil
                      have hc21574 := hc21568.keep hc21563
                      replace hB := hB.inS hc21568 inNil
                      replace G21566 := Nat.le_trans hZ G21566
                      replace G21566 := low1 G21566
                      replace hZ := Nat.le_trans hZ hc21568.size
                      obtain ⟨_, hk21575, hm⟩ := bindE hm
                      replace hk21575 := apE hk21575
                      refine wS_append (enc := encI) (l := (y21549 : List (Int))) (l2 := (([x20827] : List (Int)) : List (Int))) (d := 83) (t := 25) (T := 2) (A := A21553) (A2 := (some ⟨b21564, 0, none⟩)) (cap := cap21554) (cap2 := 1) (by kernel_rfl) el25 encI_ok F21556 (F21567.sl encI_ok) (by rfl) hk21575 ?_
                      intro w21576 fp21577 A21578 cap21579 F21580 hc21581 hp21582
                      have G21584 := low_ap G21557 hZ hp21582
                      have D21585 : Dj (fp14415 ++ fr14417) fp21577 := Dj.ap D21560 F21496.low hp21582
                      have D21586 : Dj (fp20824 ++ fr20826) fp21577 := Dj.ap D21561 F21497.low hp21582
                      have D21587 : Dj fr14417 fp21577 := Dj.ap D21562 F21543.low hp21582
                      have D21588 : Dj [b21564] fp21577 := Dj.ap (D21573).symm F21567.low hp21582
                      replace F21492 := F21492.chg hc21581 (Dj.of L0_1 G21557)
                      replace F21493 := F21493.chg hc21581 (Dj.of L0_2 G21557)
                      replace F21494 := F21494.chg hc21581 (Dj.of L0_3 G21557)
                      replace F21495 := F21495.chg hc21581 (dj1 (Dj.of L0 G21557))
                      replace F21496 := F21496.chg hc21581 D21560
                      replace F21497 := F21497.chg hc21581 D21561
                      replace F21543 := F21543.chg hc21581 D21562
                      replace F21567 := F21567.chg hc21581 (D21573).symm
                      replace hB := hB.inS hc21581 (inLow G21557)
                      replace hZ := Nat.le_trans hZ hc21581.size
                      refine wS_row1 (k := 1) (enc := encI) (l := y21549 ++ (([x20827] : List (Int)))) (d := 84) (t := 24) (T := 25) (B := A21578) (c := cap21579) (by kernel_rfl) el24 F21580 ?_
                      intro b21589 w21590 G21591 F21592 hc21593
                      have D21595 : Dj (fp14415 ++ fr14417) ([b21589] ++ fp21577) := Dj.app (Dj.of F21496.low (low1 G21591)) D21585
                      have D21596 : Dj (fp20824 ++ fr20826) ([b21589] ++ fp21577) := Dj.app (Dj.of F21497.low (low1 G21591)) D21586
                      have D21597 : Dj fr14417 ([b21589] ++ fp21577) := Dj.app (Dj.of F21543.low (low1 G21591)) D21587
                      have D21598 : Dj [b21564] ([b21589] ++ fp21577) := Dj.app (Dj.of F21567.low (low1 G21591)) D21588
                      replace F21492 := F21492.chg hc21593 Dj.nil
                      replace F21493 := F21493.chg hc21593 Dj.nil
                      replace F21494 := F21494.chg hc21593 Dj.nil
                      replace F21495 := F21495.chg hc21593 notNil
                      replace F21496 := F21496.chg hc21593 Dj.nil
                      replace F21497 := F21497.chg hc21593 Dj.nil
                      replace F21543 := F21543.chg hc21593 Dj.nil
                      replace F21567 := F21567.chg hc21593 Dj.nil
                      replace F21580 := F21580.chg hc21593 Dj.nil
                      replace hB := hB.inS hc21593 inNil
                      replace G21591 := Nat.le_trans hZ G21591
                      replace G21591 := lowApp (low1 G21591) G21584
                      replace hZ := Nat.le_trans hZ hc21593.size
                      replace F21580 := (F21580.sl encI_ok)
                      obtain ⟨_, hk21599, hm⟩ := bindE hm
                      replace hk21599 := apE hk21599
                      refine wS_appendR (k := 1) (enc := encI) (ll := (l20821 : List (List (Int)))) (ll2 := (([y21549 ++ (([x20827] : List (Int)))] : List (List (Int))) : List (List (Int)))) (d := 85) (t := 24) (T := 25) (A := A20822) (A2 := (some ⟨b21589, 0, none⟩)) (cap := cap20823) (cap2 := 1) (by kernel_rfl) el24 F21497 F21592 (by rfl) D21596 hk21599 ?_
                      intro w21600 fp21601 A21602 cap21603 F21604 hc21605 hp21606
                      have G21608 := lowApp (low_ap (low_inl G20835) hZ hp21606) (lowApp (low_inr G20835) (low_inr G21591))
                      have D21609 : Dj (fp14415 ++ fr14417) (fp21601 ++ (fr20826 ++ fp21577)) := Dj.app (Dj.ap (Dj.inl D20836) F21496.low hp21606) (Dj.app (Dj.inr D20836) (Dj.inr D21595))
                      have D21610 : Dj fr14417 (fp21601 ++ (fr20826 ++ fp21577)) := Dj.app (Dj.ap (Dj.inl ((Dj.inr (D20836).symm)).symm) F21543.low hp21606) (Dj.app (Dj.inr ((Dj.inr (D20836).symm)).symm) (Dj.inr D21597))
                      have D21611 : Dj [b21564] (fp21601 ++ (fr20826 ++ fp21577)) := Dj.app (Dj.ap (Dj.inl (D21571).symm) F21567.low hp21606) (Dj.app (Dj.inr (D21571).symm) (Dj.inr D21598))
                      replace F21492 := F21492.chg hc21605 (Dj.inl (Dj.of L0_1 G20835))
                      replace F21493 := F21493.chg hc21605 (Dj.inl (Dj.of L0_2 G20835))
                      replace F21494 := F21494.chg hc21605 (Dj.inl (Dj.of L0_3 G20835))
                      replace F21495 := F21495.chg hc21605 (dj1 (Dj.inl (Dj.of L0 G20835)))
                      replace F21496 := F21496.chg hc21605 (Dj.inl D20836)
                      replace F21543 := F21543.chg hc21605 (Dj.inl ((Dj.inr (D20836).symm)).symm)
                      replace F21567 := F21567.chg hc21605 (Dj.inl (D21571).symm)
                      replace hB := hB.inS hc21605 (memS_inl (inLow G20835))
                      replace hZ := Nat.le_trans hZ hc21605.size
                      refine wS_pure 1 [(5, .slice A21602 (l20821 ++ (([y21549 ++ (([x20827] : List (Int)))] : List (List (Int))))).length cap21603)] (by kernel_rfl) ?_
                      refine wS_end (by rfl) ?_
                      have hq : (some (l20821 ++ (([y21549 ++ (([x20827] : List (Int)))] : List (List (Int))))) : Option ((List (List (Int))))) = some _ := hm
                      replace hq := someE hq
                      subst hq
                      exact eX_J (fun hst => ⟨l20821 ++ (([y21549 ++ (([x20827] : List (Int)))] : List (List (Int)))), A21602, cap21603, fp21601, (fr20826 ++ fp21577), rfl, Fr.of hst (by kernel_rfl), F21492, F21493, F21494, F21495, F21496, F21604, G21608, D21609, hB, hZ⟩)
                    · have hm := condF hb21538 hm
                      refine cW_skip ?_
                      have hq : (some l20821 : Option ((List (List (Int))))) = some _ := hm
                      replace hq := someE hq
                      subst hq
                      exact eX_J (fun hst => ⟨l20821, A20822, cap20823, fp20824, fr20826, rfl, Fr.of hst (by kernel_rfl), F21492, F21493, F21494, F21495, F21496, F21497, G20835, D20836, hB, hZ⟩)
              · rintro a' w21219 ⟨l21220, A21221, cap21222, fp21223, fr21225, hJ, hF21226, F21227, F21228, F21229, F21230, F21231, F21232, G21233, D21234, hB, hZ⟩
                subst hJ
                refine Fr.goX hF21226 (by kernel_rfl) ?_
                refine eX_block ?_
                refine eX_then ?_
                refine cW_region ?_
                refine wS_pure 3 [(7, .int .i64 (wr (x20827 + 1))), (30, .int .i64 (wr (x20827 + 1))), (29, .int .i64 (x20827))] (by kernel_rfl) ?_
                refine wS_end (by rfl) ?_
                have hq : (some (Ctl.next ((l21220, wr (x20827 + 1)))) : Option (Ctl ((List (List (Int))) × Int) ((List (List (Int)))))) = some _ := hm
                replace hq := someE hq
                subst hq
                exact eX_next hx20842 (fun hst => ⟨l21220, A21221, cap21222, fp21223, fr21225, wr (x20827 + 1), rfl, Fr.of hst (by kernel_rfl), F21227, F21228, F21229, F21230, F21231, F21232, G21233, D21234, hB, hZ⟩)
            · have hm := condF hb20843 hm
              refine cW_exit ?_
              refine eX_then_exit ?_
              have hq : (some (Ctl.out l20821) : Option (Ctl ((List (List (Int))) × Int) ((List (List (Int)))))) = some _ := hm
              replace hq := someE hq
              subst hq
              refine eX_outX hx20842 (fun hr21612 => ?_)
              replace hr21612 := hr21612.symm
              subst hr21612
              refine eX_block_hit ?_
              exact eX_J (fun hst => ⟨l20821, A20822, cap20823, fp20824, fr20826, rfl, Fr.of hst (by kernel_rfl), F20829, F20830, F20831, F20832, F20833, F20834, G20835, D20836, hB, hZ⟩)
          · rintro a' w20804 ⟨l20805, A20806, cap20807, fp20808, fr20810, hJ, hF20811, F20812, F20813, F20814, F20815, F20816, F20817, G20818, D20819, hB, hZ⟩
            subst hJ
            refine Fr.goX hF20811 (by kernel_rfl) ?_
            refine eX_block ?_
            refine eX_then ?_
            refine cW_region ?_
            refine wS_pure 3 [(6, .int .i64 (wr (x19226 + 1))), (26, .int .i64 (wr (x19226 + 1))), (25, .int .i64 (x19226))] (by kernel_rfl) ?_
            refine wS_end (by rfl) ?_
            have hq : (some (Ctl.next ((l20805, wr (x19226 + 1)))) : Option (Ctl ((List (List (Int))) × Int) ((List (List (Int)))))) = some _ := hm
            replace hq := someE hq
            subst hq
            exact eX_next hx19241 (fun hst => ⟨l20805, A20806, cap20807, fp20808, fr20810, wr (x19226 + 1), rfl, Fr.of hst (by kernel_rfl), F20812, F20813, F20814, F20815, F20816, F20817, G20818, D20819, hB, hZ⟩)
        · have hm := condF hb19242 hm
          refine cW_exit ?_
          refine eX_then_exit ?_
          have hq : (some (Ctl.out l19220) : Option (Ctl ((List (List (Int))) × Int) ((List (List (Int)))))) = some _ := hm
          replace hq := someE hq
          subst hq
          refine eX_outX hx19241 (fun hr21613 => ?_)
          replace hr21613 := hr21613.symm
          subst hr21613
          refine eX_block_hit ?_
          exact eX_J (fun hst => ⟨l19220, A19221, cap19222, fp19223, fr19225, rfl, Fr.of hst (by kernel_rfl), F19228, F19229, F19230, F19231, F19233, G19234, hB, hZ⟩)
      · rintro a' w19205 ⟨l19206, A19207, cap19208, fp19209, fr19211, hJ, hF19212, F19213, F19214, F19215, F19216, F19217, G19218, hB, hZ⟩
        subst hJ
        refine Fr.goX hF19212 (by kernel_rfl) ?_
        refine eX_then ?_
        refine cW_region ?_
        refine wS_pure 2 [(3, .slice A19207 (l19206).length cap19208), (86, .slice A19207 (l19206).length cap19208)] (by kernel_rfl) ?_
        refine wS_end (by rfl) ?_
        refine eX_block ?_
        refine eX_then ?_
        refine cW_region ?_
        refine wS_pure 3 [(4, .int .i64 (wr (x14418 + 1))), (19, .int .i64 (wr (x14418 + 1))), (18, .int .i64 (x14418))] (by kernel_rfl) ?_
        refine wS_end (by rfl) ?_
        have hq : (some (Ctl.next ((l19206, wr (x14418 + 1)))) : Option (Ctl ((List (List (Int))) × Int) ((List (List (Int)))))) = some _ := hm
        replace hq := someE hq
        subst hq
        exact eX_next hx14431 (fun hst => ⟨l19206, A19207, cap19208, fp19209, fr19211, wr (x14418 + 1), rfl, Fr.of hst (by kernel_rfl), F19213, F19214, F19215, F19216, F19217, G19218, hB, hZ⟩)
    · have hm := condF hb14432 hm
      refine cW_exit ?_
      refine eX_then_exit ?_
      have hq : (some (Ctl.out l14412) : Option (Ctl ((List (List (Int))) × Int) ((List (List (Int)))))) = some _ := hm
      replace hq := someE hq
      subst hq
      refine eX_outX hx14431 (fun hr21614 => ?_)
      replace hr21614 := hr21614.symm
      subst hr21614
      refine eX_block_hit ?_
      exact eX_J (fun hst => ⟨l14412, A14413, cap14414, fp14415, fr14417, rfl, Fr.of hst (by kernel_rfl), F14424, G14425, hB, hZ⟩)
  · rintro a' w14401 ⟨l14402, A14403, cap14404, fp14405, fr14407, hJ, hF14408, F14409, G14410, hB, hZ⟩
    subst hJ
    refine Fr.goX hF14408 (by kernel_rfl) ?_
    refine eX_then ?_
    refine cW_seq ?_
    refine cW_region ?_
    refine wS_pure 2 [(2, .slice A14403 (l14402).length cap14404), (87, .slice A14403 (l14402).length cap14404)] (by kernel_rfl) ?_
    refine wS_end (by rfl) ?_
    refine eX_then ?_
    refine cW_ret ?_
    have hq : (some l14402 : Option ((List (List (Int))))) = some _ := hm
    replace hq := someE hq
    subst hq
    refine eX_ret (vs := [.slice A14403 (l14402).length cap14404]) [.tmp 2] (by rfl) ⟨by (show lkE _ _ _ = _); kernel_rfl, trivial⟩ ?_
    exact ⟨A14403, cap14404, fp14405, fr14407, rfl, F14409, G14410, hB⟩

set_option maxRecDepth 100000 in
/-- spec.l07Best -/
theorem c_spec_l07Best_bimplWiring {w0 : World} {q0_0 : Int} {l0_1 : List (List (Int))} {A0_1 : Option Addr} {cap0_1 : Nat} {fp0_1 : List Nat} {l0_2 : List (List (Int))} {A0_2 : Option Addr} {cap0_2 : Nat} {fp0_2 : List Nat} {l0_3 : List (Int)} {A0_3 : Option Addr} {cap0_3 : Nat} {fp0_3 : List Nat} {b0 : Nat} {r : (List (Int)) × (Int) × (Int)} (hm : m_spec_l07Best_bimplWiring q0_0 l0_1 l0_2 l0_3 = some r) (F0_1 : SlR 1 encI w0 fp0_1 A0_1 l0_1) (F0_2 : SlR 1 encI w0 fp0_2 A0_2 l0_2) (F0_3 : Sl 1 encI w0 fp0_3 A0_3 l0_3) (F0 : Cl w0 b0 27 [.int .i64 (q0_0), .slice A0_1 (l0_1).length cap0_1, .slice A0_2 (l0_2).length cap0_2, .slice A0_3 (l0_3).length cap0_3]) :
    Calls Try.prog 82 #[.pointer (some ⟨b0, 0, none⟩)] w0 fun e w' => ∃ A100 cap100 fp100, e = .returned (.tuple #[.slice A100 (r.1).length cap100, .int .i64 (r.2.1), .int .i64 (r.2.2)]) ∧ Sl 1 encI w' fp100 A100 r.1 ∧ Rt w0.heap.size (fp0_1 ++ (fp0_2 ++ (fp0_3 ++ []))) fp100 ∧ (r.1).length ≤ cap100 ∧ Chg [] w0 w' := by
  have L0_1 := F0_1.low
  have L0_2 := F0_2.low
  have L0_3 := F0_3.low
  have L0 := lt1 F0.lt
  have hB : Chg [] w0 w0 := Chg.refl _ _
  have hZ := Nat.le_refl w0.heap.size
  unfold m_spec_l07Best_bimplWiring at hm
  refine enterE (N := 46) Try.func82 (by rfl) Try.ntmps82 (by simp) [(0, .pointer (some ⟨b0, 0, none⟩))] (by rfl) (by kernel_rfl) (fun a => ?_)
  refine cW_seq ?_
  refine cW_region ?_
  refine wS_pure 3 [(4, .int .i64 (0)), (3, .int .i64 (0)), (2, .slice none 0 0)] (by kernel_rfl) ?_
  refine wS_end (by rfl) ?_
  refine eX_then ?_
  refine cW_seq ?_
  refine cW_region ?_
  refine wS_pure 1 [(11, .pointer (some ⟨b0, 0, none⟩))] (by kernel_rfl) ?_
  obtain ⟨y5, hy6, hm⟩ := bindE hm
  refine wS_calls (d := 12) (f := 118) (vs := [.pointer (some ⟨b0, 0, none⟩)]) (by kernel_rfl) ent118 (c_spec_l07All_bimplWiring hy6 F0_1 F0_2 F0_3 F0) ?_
  rintro _ w7 ⟨A9, cap10, fp11, fr14, rfl, F12, G13, hc8⟩
  replace F0_1 := F0_1.chg hc8 Dj.nil
  replace F0_2 := F0_2.chg hc8 Dj.nil
  replace F0_3 := F0_3.chg hc8 Dj.nil
  replace F0 := F0.chg hc8 notNil
  replace hB := hB.inS hc8 inNil
  replace G13 := low_le hZ G13
  replace hZ := Nat.le_trans hZ hc8.size
  refine ⟨.slice A9 (y5).length cap10, rfl, ?_⟩
  refine wS_pure 1 [(5, .slice A9 (y5).length cap10)] (by kernel_rfl) ?_
  refine wS_end (by rfl) ?_
  refine eX_then ?_
  refine cW_seq ?_
  refine cW_region ?_
  refine wS_bs0 (α := Int) (enc := encI) (d := 13) (t := 25) (T := 2) (by kernel_rfl) el25 ?_
  intro b16 w17 G18 F19 hc20
  have D22 : Dj (fp11 ++ fr14) [b16] := Dj.of F12.low (low1 G18)
  replace F0_1 := F0_1.chg hc20 Dj.nil
  replace F0_2 := F0_2.chg hc20 Dj.nil
  replace F0_3 := F0_3.chg hc20 Dj.nil
  replace F0 := F0.chg hc20 notNil
  replace F12 := F12.chg hc20 Dj.nil
  replace hB := hB.inS hc20 inNil
  replace G18 := Nat.le_trans hZ G18
  replace G18 := low1 G18
  replace hZ := Nat.le_trans hZ hc20.size
  refine wS_pure 1 [(6, .slice (some ⟨b16, 0, none⟩) (([] : List (Int))).length 0)] (by kernel_rfl) ?_
  refine wS_end (by rfl) ?_
  refine eX_then ?_
  refine cW_seq ?_
  refine cW_region ?_
  refine wS_pure 1 [(7, .int .i64 ((-1)))] (by kernel_rfl) ?_
  refine wS_end (by rfl) ?_
  refine eX_then ?_
  refine cW_seq ?_
  refine cW_region ?_
  refine wS_pure 1 [(8, .int .i64 (0))] (by kernel_rfl) ?_
  refine wS_end (by rfl) ?_
  refine eX_then ?_
  refine cW_seq ?_
  refine cW_seq ?_
  refine cW_region ?_
  refine wS_pure 1 [(9, .int .i64 (0))] (by kernel_rfl) ?_
  refine wS_end (by rfl) ?_
  refine eX_then ?_
  obtain ⟨r447, hr448, hm⟩ := bindE hm
  have hm449 := hm
  refine cW_cut (fun a' w' => ∃ l418 : List (Int), ∃ A419 : Option Addr, ∃ cap420 : Nat, ∃ fp421 : List Nat, ∃ x423 : Int, ∃ x424 : Int, (l418, x423, x424) = r447 ∧ Fr 46 [(6, .slice A419 (l418).length cap420), (7, .int .i64 (x423)), (8, .int .i64 (x424))] a' ∧ Sl 1 encI w' fp421 A419 l418 ∧ Rt w0.heap.size (fp0_1 ++ (fp0_2 ++ (fp0_3 ++ []))) fp421 ∧ (l418).length ≤ cap420 ∧ Chg [] w0 w' ∧ w0.heap.size ≤ w'.heap.size) ?_ ?_
  · refine cW_block ?_
    refine cW_loop _ (fun (s450 : (List (Int)) × Int × Int × Int) a' w' => ∃ l430 : List (Int), ∃ A431 : Option Addr, ∃ cap432 : Nat, ∃ fp433 : List Nat, ∃ x435 : Int, ∃ x436 : Int, ∃ x437 : Int, (l430, x435, x436, x437) = s450 ∧ Fr 46 [(0, .pointer (some ⟨b0, 0, none⟩)), (5, .slice A9 (y5).length cap10), (6, .slice A431 (l430).length cap432), (7, .int .i64 (x435)), (8, .int .i64 (x436)), (9, .int .i64 (x437))] a' ∧ SlR 1 encI w' fp0_1 A0_1 l0_1 ∧ SlR 1 encI w' fp0_2 A0_2 l0_2 ∧ Sl 1 encI w' fp0_3 A0_3 l0_3 ∧ Cl w' b0 27 [.int .i64 (q0_0), .slice A0_1 (l0_1).length cap0_1, .slice A0_2 (l0_2).length cap0_2, .slice A0_3 (l0_3).length cap0_3] ∧ OwR 1 encI 25 2 w' fp11 fr14 A9 cap10 y5 ∧ Sl 1 encI w' fp433 A431 l430 ∧ Rt w0.heap.size (fp0_1 ++ (fp0_2 ++ (fp0_3 ++ []))) fp433 ∧ (l430).length ≤ cap432 ∧ Chg [] w0 w' ∧ w0.heap.size ≤ w'.heap.size) hr448 (fun hst => ⟨([] : List (Int)), (some ⟨b16, 0, none⟩), 0, [b16], (-1), 0, 0, rfl, Fr.of hst (by kernel_rfl), F0_1, F0_2, F0_3, F0, F12, (F19.sl encI_ok), (Rt.low G18), F19.cap_le, hB, hZ⟩) ?_
    rintro _ c451 a' w429 ⟨l430, A431, cap432, fp433, x435, x436, x437, rfl, hF438, F439, F440, F441, F442, F443, F444, Rt445, K446, hB, hZ⟩ hx452
    refine Fr.goOn hF438 (by kernel_rfl) ?_
    have hm := hx452
    unfold m_spec_l07Best_bimplWiring_s1 at hm
    refine cW_seq ?_
    refine cW_seq ?_
    refine cW_region ?_
    refine wS_pure 4 [(17, .bool (decide (x437 < (((y5).length : Int))))), (16, .int .i64 (((y5).length : Int))), (15, .slice A9 (y5).length cap10), (14, .int .i64 (x437))] (by kernel_rfl) ?_
    refine wS_end (by rfl) ?_
    refine eX_then ?_
    refine cW_cond (t := decide (x437 < (((y5).length : Int)))) (by kernel_rfl) (fun hb453 => ?_) (fun hb453 => ?_)
    · have hm := condT hb453 hm
      refine cW_skip ?_
      refine eX_then ?_
      refine cW_seq ?_
      refine cW_block ?_
      obtain ⟨s554, hs555, hm⟩ := bindE hm
      refine cW_cut (fun a' w' => ∃ l538 : List (Int), ∃ A539 : Option Addr, ∃ cap540 : Nat, ∃ fp541 : List Nat, ∃ x543 : Int, ∃ x544 : Int, (l538, x543, x544) = s554 ∧ Fr 46 [(0, .pointer (some ⟨b0, 0, none⟩)), (5, .slice A9 (y5).length cap10), (6, .slice A539 (l538).length cap540), (7, .int .i64 (x543)), (8, .int .i64 (x544)), (9, .int .i64 (x437))] a' ∧ SlR 1 encI w' fp0_1 A0_1 l0_1 ∧ SlR 1 encI w' fp0_2 A0_2 l0_2 ∧ Sl 1 encI w' fp0_3 A0_3 l0_3 ∧ Cl w' b0 27 [.int .i64 (q0_0), .slice A0_1 (l0_1).length cap0_1, .slice A0_2 (l0_2).length cap0_2, .slice A0_3 (l0_3).length cap0_3] ∧ OwR 1 encI 25 2 w' fp11 fr14 A9 cap10 y5 ∧ Sl 1 encI w' fp541 A539 l538 ∧ Rt w0.heap.size (fp0_1 ++ (fp0_2 ++ (fp0_3 ++ []))) fp541 ∧ (l538).length ≤ cap540 ∧ Chg [] w0 w' ∧ w0.heap.size ≤ w'.heap.size) ?_ ?_
      · have hm := hs555
        refine cW_seq ?_
        refine cW_region ?_
        refine wS_pure 3 [(22, .int .i64 (x437)), (21, .slice A9 (y5).length cap10), (20, .pointer (some ⟨b0, 0, none⟩))] (by kernel_rfl) ?_
        obtain ⟨x556, hx557, hm⟩ := bindE hm
        refine wS_idx (d := 23) (T := 24) (A := A9) (n := (y5).length) (cap := cap10) (kd := .i64) (m := x437) (by kernel_rfl) sl24 ((F443.slr encI_ok).is hx557) ?_
        obtain ⟨A558, cap559, hc561, F560, K562⟩ := OwR.row F443 encI_ok hx557
        have G564 := low_inr G13
        have Dm565 := (F443.dj).symm
        refine wS_load1 (d := 24) (T := 25) (ad := (elA A9 1 (x437) 0)) (v := .slice A558 (x556).length cap559) (by kernel_rfl) vt25 hc561 ?_
        obtain ⟨y566, hy567, hm⟩ := bindE hm
        refine wS_calls (d := 25) (f := 65) (vs := [.pointer (some ⟨b0, 0, none⟩), .slice A558 (x556).length cap559]) (by kernel_rfl) ent65 (c_spec_l07Cost_bimplWiring hy567 F439 F440 F441 F442 F560) ?_
        rintro _ w568 ⟨rfl, hc569⟩
        replace F439 := F439.chg hc569 Dj.nil
        replace F440 := F440.chg hc569 Dj.nil
        replace F441 := F441.chg hc569 Dj.nil
        replace F442 := F442.chg hc569 notNil
        replace F443 := F443.chg hc569 Dj.nil
        replace F444 := F444.chg hc569 Dj.nil
        replace F560 := F560.chg hc569 Dj.nil
        have hc570 := hc569.keep hc561
        replace hB := hB.inS hc569 inNil
        replace hZ := Nat.le_trans hZ hc569.size
        refine ⟨.int .i64 (y566), rfl, ?_⟩
        refine wS_pure 1 [(10, .int .i64 (y566))] (by kernel_rfl) ?_
        refine wS_end (by rfl) ?_
        refine eX_then ?_
        refine cW_seq ?_
        obtain ⟨s612, hs613, hm⟩ := bindE hm
        refine cW_cut (fun a' w' => ∃ l596 : List (Int), ∃ A597 : Option Addr, ∃ cap598 : Nat, ∃ fp599 : List Nat, ∃ x601 : Int, ∃ x602 : Int, (l596, x601, x602) = s612 ∧ Fr 46 [(0, .pointer (some ⟨b0, 0, none⟩)), (5, .slice A9 (y5).length cap10), (6, .slice A597 (l596).length cap598), (7, .int .i64 (x601)), (8, .int .i64 (x602)), (9, .int .i64 (x437)), (10, .int .i64 (y566))] a' ∧ SlR 1 encI w' fp0_1 A0_1 l0_1 ∧ SlR 1 encI w' fp0_2 A0_2 l0_2 ∧ Sl 1 encI w' fp0_3 A0_3 l0_3 ∧ Cl w' b0 27 [.int .i64 (q0_0), .slice A0_1 (l0_1).length cap0_1, .slice A0_2 (l0_2).length cap0_2, .slice A0_3 (l0_3).length cap0_3] ∧ OwR 1 encI 25 2 w' fp11 fr14 A9 cap10 y5 ∧ Sl 1 encI w' fp599 A597 l596 ∧ Rt w0.heap.size (fp0_1 ++ (fp0_2 ++ (fp0_3 ++ []))) fp599 ∧ (l596).length ≤ cap598 ∧ Chg [] w0 w' ∧ w0.heap.size ≤ w'.heap.size) ?_ ?_
        · have hm := hs613
          refine cW_seq ?_
          refine cW_region ?_
          refine wS_pure 3 [(28, .bool (decide (x435 < 0))), (27, .bool (decide (x435 < 0))), (26, .int .i64 (x435))] (by kernel_rfl) ?_
          refine wS_bool (decide (x435 < 0)) (fun hb614 => ?_) (fun hb614 => ?_)
          · have hm := condT hb614 hm
            rewrite [hb614]
            refine wS_pure 4 [(32, .bool (true)), (31, undef), (30, undef), (29, undef)] (by kernel_rfl) ?_
            refine wS_end (by rfl) ?_
            refine eX_then ?_
            refine cW_prune [(0, .pointer (some ⟨b0, 0, none⟩)), (5, .slice A9 (y5).length cap10), (6, .slice A431 (l430).length cap432), (7, .int .i64 (x435)), (8, .int .i64 (x436)), (9, .int .i64 (x437)), (10, .int .i64 (y566)), (32, .bool (true))] (by kernel_rfl) (by kernel_rfl) (fun a615 => ?_)
            refine cW_cond_t (by kernel_rfl) ?_
            refine cW_seq ?_
            refine cW_region ?_
            refine wS_pure 2 [(34, .int .i64 (x437)), (33, .slice A9 (y5).length cap10)] (by kernel_rfl) ?_
            obtain ⟨x616, hx617, hm⟩ := bindE hm
            refine wS_idx (d := 35) (T := 24) (A := A9) (n := (y5).length) (cap := cap10) (kd := .i64) (m := x437) (by kernel_rfl) sl24 ((F443.slr encI_ok).is hx617) ?_
            obtain ⟨A618, cap619, hc621, F620, K622⟩ := OwR.row F443 encI_ok hx617
            have G624 := low_inr G13
            have Dm625 := (F443.dj).symm
            refine wS_load1 (d := 36) (T := 25) (ad := (elA A9 1 (x437) 0)) (v := .slice A618 (x616).length cap619) (by kernel_rfl) vt25 hc621 ?_
            refine wS_pure 1 [(6, .slice A618 (x616).length cap619)] (by kernel_rfl) ?_
            refine wS_end (by rfl) ?_
            refine eX_then ?_
            refine cW_seq ?_
            refine cW_region ?_
            refine wS_pure 2 [(7, .int .i64 (y566)), (37, .int .i64 (y566))] (by kernel_rfl) ?_
            refine wS_end (by rfl) ?_
            refine eX_then ?_
            refine cW_region ?_
            refine wS_pure 1 [(8, .int .i64 (0))] (by kernel_rfl) ?_
            refine wS_end (by rfl) ?_
            have hq : (some ((x616, y566, 0)) : Option ((List (Int)) × Int × Int)) = some _ := hm
            replace hq := someE hq
            subst hq
            exact eX_J (fun hst => ⟨x616, A618, cap619, fr14, y566, 0, rfl, Fr.of hst (by kernel_rfl), F439, F440, F441, F442, F443, F620, (Rt.low G624), K622, hB, hZ⟩)
          · have hm := condF hb614 hm
            rewrite [hb614]
            refine wS_pure 4 [(32, .bool (decide (y566 < x435))), (31, .bool (decide (y566 < x435))), (30, .int .i64 (x435)), (29, .int .i64 (y566))] (by kernel_rfl) ?_
            refine wS_end (by rfl) ?_
            refine eX_then ?_
            refine cW_prune [(0, .pointer (some ⟨b0, 0, none⟩)), (5, .slice A9 (y5).length cap10), (6, .slice A431 (l430).length cap432), (7, .int .i64 (x435)), (8, .int .i64 (x436)), (9, .int .i64 (x437)), (10, .int .i64 (y566)), (32, .bool (decide (y566 < x435)))] (by kernel_rfl) (by kernel_rfl) (fun a626 => ?_)
            refine cW_cond (t := decide (y566 < x435)) (by kernel_rfl) (fun hb627 => ?_) (fun hb627 => ?_)
            · have hm := condT hb627 hm
              refine cW_seq ?_
              refine cW_region ?_
              refine wS_pure 2 [(34, .int .i64 (x437)), (33, .slice A9 (y5).length cap10)] (by kernel_rfl) ?_
              obtain ⟨x628, hx629, hm⟩ := bindE hm
              refine wS_idx (d := 35) (T := 24) (A := A9) (n := (y5).length) (cap := cap10) (kd := .i64) (m := x437) (by kernel_rfl) sl24 ((F443.slr encI_ok).is hx629) ?_
              obtain ⟨A630, cap631, hc633, F632, K634⟩ := OwR.row F443 encI_ok hx629
              have G636 := low_inr G13
              have Dm637 := (F443.dj).symm
              refine wS_load1 (d := 36) (T := 25) (ad := (elA A9 1 (x437) 0)) (v := .slice A630 (x628).length cap631) (by kernel_rfl) vt25 hc633 ?_
              refine wS_pure 1 [(6, .slice A630 (x628).length cap631)] (by kernel_rfl) ?_
              refine wS_end (by rfl) ?_
              refine eX_then ?_
              refine cW_seq ?_
              refine cW_region ?_
              refine wS_pure 2 [(7, .int .i64 (y566)), (37, .int .i64 (y566))] (by kernel_rfl) ?_
              refine wS_end (by rfl) ?_
              refine eX_then ?_
              refine cW_region ?_
              refine wS_pure 1 [(8, .int .i64 (0))] (by kernel_rfl) ?_
              refine wS_end (by rfl) ?_
              have hq : (some ((x628, y566, 0)) : Option ((List (Int)) × Int × Int)) = some _ := hm
              replace hq := someE hq
              subst hq
              exact eX_J (fun hst => ⟨x628, A630, cap631, fr14, y566, 0, rfl, Fr.of hst (by kernel_rfl), F439, F440, F441, F442, F443, F632, (Rt.low G636), K634, hB, hZ⟩)
            · have hm := condF hb627 hm
              refine cW_skip ?_
              have hq : (some ((l430, x435, x436)) : Option ((List (Int)) × Int × Int)) = some _ := hm
              replace hq := someE hq
              subst hq
              exact eX_J (fun hst => ⟨l430, A431, cap432, fp433, x435, x436, rfl, Fr.of hst (by kernel_rfl), F439, F440, F441, F442, F443, F444, Rt445, K446, hB, hZ⟩)
        · rintro a' w595 ⟨l596, A597, cap598, fp599, x601, x602, hJ, hF603, F604, F605, F606, F607, F608, F609, Rt610, K611, hB, hZ⟩
          subst hJ
          refine Fr.goX hF603 (by kernel_rfl) ?_
          refine eX_then ?_
          refine cW_seq ?_
          refine cW_region ?_
          refine wS_pure 3 [(40, .bool (y566 == x601)), (39, .int .i64 (x601)), (38, .int .i64 (y566))] (by kernel_rfl) ?_
          refine wS_end (by rfl) ?_
          refine eX_then ?_
          refine cW_cond (t := y566 == x601) (by kernel_rfl) (fun hb638 => ?_) (fun hb638 => ?_)
          · have hm := condT hb638 hm
            refine cW_region ?_
            refine wS_pure 3 [(8, .int .i64 (wr (x602 + 1))), (42, .int .i64 (wr (x602 + 1))), (41, .int .i64 (x602))] (by kernel_rfl) ?_
            refine wS_end (by rfl) ?_
            have hq : (some ((l596, x601, wr (x602 + 1))) : Option ((List (Int)) × Int × Int)) = some _ := hm
            replace hq := someE hq
            subst hq
            exact eX_J (fun hst => ⟨l596, A597, cap598, fp599, x601, wr (x602 + 1), rfl, Fr.of hst (by kernel_rfl), F604, F605, F606, F607, F608, F609, Rt610, K611, hB, hZ⟩)
          · have hm := condF hb638 hm
            refine cW_skip ?_
            have hq : (some ((l596, x601, x602)) : Option ((List (Int)) × Int × Int)) = some _ := hm
            replace hq := someE hq
            subst hq
            exact eX_J (fun hst => ⟨l596, A597, cap598, fp599, x601, x602, rfl, Fr.of hst (by kernel_rfl), F604, F605, F606, F607, F608, F609, Rt610, K611, hB, hZ⟩)
      · rintro a' w537 ⟨l538, A539, cap540, fp541, x543, x544, hJ, hF545, F546, F547, F548, F549, F550, F551, Rt552, K553, hB, hZ⟩
        subst hJ
        refine Fr.goX hF545 (by kernel_rfl) ?_
        refine eX_block ?_
        refine eX_then ?_
        refine cW_region ?_
        refine wS_pure 3 [(9, .int .i64 (wr (x437 + 1))), (19, .int .i64 (wr (x437 + 1))), (18, .int .i64 (x437))] (by kernel_rfl) ?_
        refine wS_end (by rfl) ?_
        have hq : (some (Ctl.next ((l538, x543, x544, wr (x437 + 1)))) : Option (Ctl ((List (Int)) × Int × Int × Int) ((List (Int)) × Int × Int))) = some _ := hm
        replace hq := someE hq
        subst hq
        exact eX_next hx452 (fun hst => ⟨l538, A539, cap540, fp541, x543, x544, wr (x437 + 1), rfl, Fr.of hst (by kernel_rfl), F546, F547, F548, F549, F550, F551, Rt552, K553, hB, hZ⟩)
    · have hm := condF hb453 hm
      refine cW_exit ?_
      refine eX_then_exit ?_
      have hq : (some (Ctl.out ((l430, x435, x436))) : Option (Ctl ((List (Int)) × Int × Int × Int) ((List (Int)) × Int × Int))) = some _ := hm
      replace hq := someE hq
      subst hq
      refine eX_outX hx452 (fun hr639 => ?_)
      replace hr639 := hr639.symm
      subst hr639
      refine eX_block_hit ?_
      exact eX_J (fun hst => ⟨l430, A431, cap432, fp433, x435, x436, rfl, Fr.of hst (by kernel_rfl), F444, Rt445, K446, hB, hZ⟩)
  · rintro a' w417 ⟨l418, A419, cap420, fp421, x423, x424, hJ, hF425, F426, Rt427, K428, hB, hZ⟩
    subst hJ
    refine Fr.goX hF425 (by kernel_rfl) ?_
    refine eX_then ?_
    refine cW_seq ?_
    refine cW_region ?_
    refine wS_pure 6 [(4, .int .i64 (x424)), (3, .int .i64 (x423)), (2, .slice A419 (l418).length cap420), (45, .int .i64 (x424)), (44, .int .i64 (x423)), (43, .slice A419 (l418).length cap420)] (by kernel_rfl) ?_
    refine wS_end (by rfl) ?_
    refine eX_then ?_
    refine cW_ret ?_
    have hq : (some ((l418, x423, x424)) : Option ((List (Int)) × (Int) × (Int))) = some _ := hm
    replace hq := someE hq
    subst hq
    refine eX_ret (vs := [.slice A419 (l418).length cap420, .int .i64 (x423), .int .i64 (x424)]) [.tmp 2, .tmp 3, .tmp 4] (by rfl) ⟨by (show lkE _ _ _ = _); kernel_rfl, ⟨by (show lkE _ _ _ = _); kernel_rfl, ⟨by (show lkE _ _ _ = _); kernel_rfl, trivial⟩⟩⟩ ?_
    exact ⟨A419, cap420, fp421, rfl, F426, Rt427, K428, hB⟩

set_option maxRecDepth 100000 in
/-- spec.CountBest -/
theorem c_spec_CountBest {w0 : World} {p0_0 : Int} {l0_1 : List (List (Int))} {A0_1 : Option Addr} {cap0_1 : Nat} {fp0_1 : List Nat} {l0_2 : List (List (Int))} {A0_2 : Option Addr} {cap0_2 : Nat} {fp0_2 : List Nat} {l0_3 : List (Int)} {A0_3 : Option Addr} {cap0_3 : Nat} {fp0_3 : List Nat} {r : (Int) × (Bool)} (hm : m_spec_CountBest p0_0 l0_1 l0_2 l0_3 = some r) (F0_1 : SlR 1 encI w0 fp0_1 A0_1 l0_1) (F0_2 : SlR 1 encI w0 fp0_2 A0_2 l0_2) (F0_3 : Sl 1 encI w0 fp0_3 A0_3 l0_3) :
    Calls Try.prog 38 #[.agg #[.int .i64 (p0_0), .slice A0_1 (l0_1).length cap0_1, .slice A0_2 (l0_2).length cap0_2, .slice A0_3 (l0_3).length cap0_3]] w0 fun e w' => e = .returned (.tuple #[.int .i64 (r.1), .bool (r.2)]) ∧ Chg [] w0 w' := by
  have L0_1 := F0_1.low
  have L0_2 := F0_2.low
  have L0_3 := F0_3.low
  have hB : Chg [] w0 w0 := Chg.refl _ _
  have hZ := Nat.le_refl w0.heap.size
  unfold m_spec_CountBest at hm
  refine enterE (N := 15) Try.func38 (by rfl) Try.ntmps38 (by simp) [(0, .agg #[.int .i64 (p0_0), .slice A0_1 (l0_1).length cap0_1, .slice A0_2 (l0_2).length cap0_2, .slice A0_3 (l0_3).length cap0_3])] (by rfl) (by kernel_rfl) (fun a => ?_)
  refine cW_seq ?_
  refine cW_region ?_
  refine wS_box (d := 1) (T := 27) (x := .agg #[.int .i64 (p0_0), .slice A0_1 (l0_1).length cap0_1, .slice A0_2 (l0_2).length cap0_2, .slice A0_3 (l0_3).length cap0_3]) (by kernel_rfl) ?_
  intro b4 w5 G6 F7 hc8
  replace F7 : Cl w5 b4 27 [.int .i64 (p0_0), .slice A0_1 (l0_1).length cap0_1, .slice A0_2 (l0_2).length cap0_2, .slice A0_3 (l0_3).length cap0_3] := F7
  replace F0_1 := F0_1.chg hc8 Dj.nil
  replace F0_2 := F0_2.chg hc8 Dj.nil
  replace F0_3 := F0_3.chg hc8 Dj.nil
  replace hB := hB.inS hc8 inNil
  replace G6 := Nat.le_trans hZ G6
  replace hZ := Nat.le_trans hZ hc8.size
  refine wS_pure 2 [(3, .bool (false)), (2, .int .i64 (0))] (by kernel_rfl) ?_
  refine wS_end (by rfl) ?_
  refine eX_then ?_
  refine cW_seq ?_
  refine cW_seq ?_
  refine cW_region ?_
  obtain ⟨y10, hy11, hm⟩ := bindE hm
  refine wS_calls (d := 7) (f := 63) (vs := [.pointer (some ⟨b4, 0, none⟩)]) (by kernel_rfl) ent63 (c_spec_l07Is_bimplWiring hy11 F0_1 F0_2 F0_3 F7) ?_
  rintro _ w12 ⟨rfl, hc13⟩
  replace F0_1 := F0_1.chg hc13 Dj.nil
  replace F0_2 := F0_2.chg hc13 Dj.nil
  replace F0_3 := F0_3.chg hc13 Dj.nil
  replace F7 := F7.chg hc13 notNil
  replace hB := hB.inS hc13 inNil
  replace hZ := Nat.le_trans hZ hc13.size
  refine ⟨.bool (y10), rfl, ?_⟩
  refine wS_pure 1 [(8, .bool (!y10))] (by kernel_rfl) ?_
  refine wS_end (by rfl) ?_
  refine eX_then ?_
  refine cW_cond (t := !y10) (by kernel_rfl) (fun hb14 => ?_) (fun hb14 => ?_)
  · have hm := condT hb14 hm
    refine cW_seq ?_
    refine cW_region ?_
    refine wS_pure 2 [(3, .bool (false)), (2, .int .i64 (0))] (by kernel_rfl) ?_
    refine wS_end (by rfl) ?_
    refine eX_then ?_
    refine cW_ret ?_
    refine eX_then_ret ?_
    have hq : (some ((0, false)) : Option ((Int) × (Bool))) = some _ := hm
    replace hq := someE hq
    subst hq
    refine eX_ret (vs := [.int .i64 (0), .bool (false)]) [.tmp 2, .tmp 3] (by rfl) ⟨by (show lkE _ _ _ = _); kernel_rfl, ⟨by (show lkE _ _ _ = _); kernel_rfl, trivial⟩⟩ ?_
    exact ⟨rfl, hB⟩
  · have hm := condF hb14 hm
    refine cW_skip ?_
    refine eX_then ?_
    refine cW_seq ?_
    refine cW_region ?_
    obtain ⟨y15, hy16, hm⟩ := bindE hm
    refine wS_calls (d := 10) (f := 82) (vs := [.pointer (some ⟨b4, 0, none⟩)]) (by kernel_rfl) ent82 (c_spec_l07Best_bimplWiring hy16 F0_1 F0_2 F0_3 F7) ?_
    rintro _ w17 ⟨A19, cap20, fp21, rfl, F22, G23, K24, hc18⟩
    have Rt26 : Rt w0.heap.size (fp0_1 ++ (fp0_2 ++ (fp0_3 ++ []))) fp21 := Rt.of G23 hZ (Rt.app (Rt.mem (fun x hx => (List.mem_append_left _ hx))) (Rt.app (Rt.mem (fun x hx => (List.mem_append_right _ (List.mem_append_left _ hx)))) (Rt.app (Rt.mem (fun x hx => (List.mem_append_right _ (List.mem_append_right _ (List.mem_append_left _ hx))))) Rt.nil)))
    have D27 : Dj [b4] fp21 := Rt.dj G23 (lt1 F7.lt) (Dj.app (Dj.of L0_1 (low1 G6)).symm (Dj.app (Dj.of L0_2 (low1 G6)).symm (Dj.app (Dj.of L0_3 (low1 G6)).symm Dj.nil)))
    replace F0_1 := F0_1.chg hc18 Dj.nil
    replace F0_2 := F0_2.chg hc18 Dj.nil
    replace F0_3 := F0_3.chg hc18 Dj.nil
    replace F7 := F7.chg hc18 notNil
    replace hB := hB.inS hc18 inNil
    replace hZ := Nat.le_trans hZ hc18.size
    refine ⟨.tuple #[.slice A19 (y15.1).length cap20, .int .i64 (y15.2.1), .int .i64 (y15.2.2)], rfl, ?_⟩
    refine wS_pure 7 [(6, .int .i64 (y15.2.2)), (5, .int .i64 (y15.2.1)), (4, .slice A19 (y15.1).length cap20), (13, .int .i64 (y15.2.2)), (12, .int .i64 (y15.2.1)), (11, .slice A19 (y15.1).length cap20), (9, .tuple #[.slice A19 (y15.1).length cap20, .int .i64 (y15.2.1), .int .i64 (y15.2.2)])] (by kernel_rfl) ?_
    refine wS_end (by rfl) ?_
    refine eX_then ?_
    refine cW_seq ?_
    refine cW_region ?_
    refine wS_pure 3 [(3, .bool (true)), (2, .int .i64 (y15.2.2)), (14, .int .i64 (y15.2.2))] (by kernel_rfl) ?_
    refine wS_end (by rfl) ?_
    refine eX_then ?_
    refine cW_ret ?_
    have hq : (some ((y15.2.2, true)) : Option ((Int) × (Bool))) = some _ := hm
    replace hq := someE hq
    subst hq
    refine eX_ret (vs := [.int .i64 (y15.2.2), .bool (true)]) [.tmp 2, .tmp 3] (by rfl) ⟨by (show lkE _ _ _ = _); kernel_rfl, ⟨by (show lkE _ _ _ = _); kernel_rfl, trivial⟩⟩ ?_
    exact ⟨rfl, hB⟩

set_option maxRecDepth 100000 in
/-- laws.toInt64S -/
theorem c_laws_toInt64S {w0 : World} {l0 : List (Int)} {A0 : Option Addr} {cap0 : Nat} {fp0 : List Nat} {r : (List (Int))} (hm : m_laws_toInt64S l0 = some r) (F0 : Sl 1 encI w0 fp0 A0 l0) :
    Calls Try.prog 50 #[.slice A0 (l0).length cap0] w0 fun e w' => ∃ A100 cap100 fp100, e = .returned (.slice A100 (r).length cap100) ∧ Ow 1 encI 2 w' fp100 A100 cap100 r ∧ (∀ x ∈ fp100, w0.heap.size ≤ x) ∧ Chg [] w0 w' := by
  have L0 := F0.low
  have hB : Chg [] w0 w0 := Chg.refl _ _
  have hZ := Nat.le_refl w0.heap.size
  unfold m_laws_toInt64S at hm
  refine enterE (N := 22) Try.func50 (by rfl) Try.ntmps50 (by simp) [(0, .slice A0 (l0).length cap0)] (by rfl) (by kernel_rfl) (fun a => ?_)
  refine cW_seq ?_
  refine cW_region ?_
  refine wS_pure 1 [(2, .slice none 0 0)] (by kernel_rfl) ?_
  refine wS_end (by rfl) ?_
  refine eX_then ?_
  refine cW_seq ?_
  refine cW_region ?_
  refine wS_pure 2 [(6, .int .i64 (((l0).length : Int))), (5, .slice A0 (l0).length cap0)] (by kernel_rfl) ?_
  obtain ⟨_, hk2, hm⟩ := bindE hm
  replace hk2 := mkE hk2
  refine wS_make (enc := encI) (x0 := (0 : Int)) (d := 7) (t := 25) (T := 2) (k1 := .i64) (k2 := .i64) (m := ((l0).length : Int)) (by kernel_rfl) el25 encI_ok (by rfl) hk2.1 hk2.2 ?_
  intro b3 w4 G5 F6 hc7
  replace F0 := F0.chg hc7 Dj.nil
  replace hB := hB.inS hc7 inNil
  replace G5 := Nat.le_trans hZ G5
  replace G5 := low1 G5
  replace hZ := Nat.le_trans hZ hc7.size
  refine wS_pure 1 [(3, .slice (some ⟨b3, 0, none⟩) (List.replicate (Int.toNat (((l0).length : Int))) ((0 : Int))).length (Int.toNat (((l0).length : Int))))] (by kernel_rfl) ?_
  refine wS_end (by rfl) ?_
  refine eX_then ?_
  refine cW_seq ?_
  refine cW_seq ?_
  refine cW_region ?_
  refine wS_pure 1 [(4, .int .i64 (0))] (by kernel_rfl) ?_
  refine wS_end (by rfl) ?_
  refine eX_then ?_
  obtain ⟨r43, hr44, hm⟩ := bindE hm
  have hm45 := hm
  refine cW_cut (fun a' w' => ∃ l34 : List (Int), l34 = r43 ∧ Fr 22 [(3, .slice (some ⟨b3, 0, none⟩) (l34).length (Int.toNat (((l0).length : Int))))] a' ∧ Ow 1 encI 2 w' [b3] (some ⟨b3, 0, none⟩) (Int.toNat (((l0).length : Int))) l34 ∧ Chg [] w0 w' ∧ w0.heap.size ≤ w'.heap.size) ?_ ?_
  · refine cW_block ?_
    refine cW_loop _ (fun (s46 : Int × (List (Int))) a' w' => ∃ x38 : Int, ∃ l39 : List (Int), (x38, l39) = s46 ∧ Fr 22 [(0, .slice A0 (l0).length cap0), (3, .slice (some ⟨b3, 0, none⟩) (l39).length (Int.toNat (((l0).length : Int)))), (4, .int .i64 (x38))] a' ∧ Sl 1 encI w' fp0 A0 l0 ∧ Ow 1 encI 2 w' [b3] (some ⟨b3, 0, none⟩) (Int.toNat (((l0).length : Int))) l39 ∧ Chg [] w0 w' ∧ w0.heap.size ≤ w'.heap.size) hr44 (fun hst => ⟨0, List.replicate (Int.toNat (((l0).length : Int))) ((0 : Int)), rfl, Fr.of hst (by kernel_rfl), F0, F6, hB, hZ⟩) ?_
    rintro _ c47 a' w37 ⟨x38, l39, rfl, hF40, F41, F42, hB, hZ⟩ hx48
    refine Fr.goOn hF40 (by kernel_rfl) ?_
    have hm := hx48
    unfold m_laws_toInt64S_s1 at hm
    refine cW_seq ?_
    refine cW_seq ?_
    refine cW_region ?_
    refine wS_pure 4 [(11, .bool (decide (x38 < (((l0).length : Int))))), (10, .int .i64 (((l0).length : Int))), (9, .slice A0 (l0).length cap0), (8, .int .i64 (x38))] (by kernel_rfl) ?_
    refine wS_end (by rfl) ?_
    refine eX_then ?_
    refine cW_cond (t := decide (x38 < (((l0).length : Int)))) (by kernel_rfl) (fun hb49 => ?_) (fun hb49 => ?_)
    · have hm := condT hb49 hm
      refine cW_skip ?_
      refine eX_then ?_
      refine cW_seq ?_
      refine cW_block ?_
      refine cW_region ?_
      refine wS_pure 4 [(17, .int .i64 (x38)), (16, .slice A0 (l0).length cap0), (15, .int .i64 (x38)), (14, .slice (some ⟨b3, 0, none⟩) (l39).length (Int.toNat (((l0).length : Int))))] (by kernel_rfl) ?_
      obtain ⟨x50, hx51, hm⟩ := bindE hm
      refine wS_idx (d := 18) (T := 25) (A := A0) (n := (l0).length) (cap := cap0) (kd := .i64) (m := x38) (by kernel_rfl) sl25 (F41.is hx51) ?_
      refine wS_load1 (d := 19) (T := 2) (ad := (elA A0 1 (x38) 0)) (v := .int .i64 (x50)) (by kernel_rfl) vt2 (Sl.cell F41 hx51 0 (by rfl)) ?_
      obtain ⟨x52, hx53, hm⟩ := bindE hm
      refine wS_idx (d := 20) (T := 25) (A := (some ⟨b3, 0, none⟩)) (n := (l39).length) (cap := (Int.toNat (((l0).length : Int)))) (kd := .i64) (m := x38) (by kernel_rfl) sl25 ((F42.sl encI_ok).is hx53) ?_
      refine wS_storeEl (x := x52) x50 (T := 2) (U := 2) (cap := (Int.toNat (((l0).length : Int)))) (j := 0) (A := (some ⟨b3, 0, none⟩)) (v := .int .i64 (x50)) (vs := [.int .i64 (x50)]) (m := x38) (by kernel_rfl) (by rfl) sz2 (by rfl) encI_ok F42 hx53 (by simp only [List.length_cons, List.length_nil]; omega) (by rfl) ?_
      intro w54 F55 hc56
      replace F41 := F41.chg hc56 (Dj.of L0 G5)
      replace hB := hB.inS hc56 (inLow G5)
      replace hZ := Nat.le_trans hZ hc56.size
      clear F42
      rewrite [show (l39).length = (l39.set (Int.toNat x38) x50).length from (List.length_set ..).symm]
      refine wS_end (by rfl) ?_
      refine eX_block ?_
      refine eX_then ?_
      refine cW_region ?_
      refine wS_pure 3 [(4, .int .i64 (wr (x38 + 1))), (13, .int .i64 (wr (x38 + 1))), (12, .int .i64 (x38))] (by kernel_rfl) ?_
      refine wS_end (by rfl) ?_
      have hq : (some (Ctl.next ((wr (x38 + 1), l39.set (Int.toNat x38) x50))) : Option (Ctl (Int × (List (Int))) ((List (Int))))) = some _ := hm
      replace hq := someE hq
      subst hq
      exact eX_next hx48 (fun hst => ⟨wr (x38 + 1), l39.set (Int.toNat x38) x50, rfl, Fr.of hst (by kernel_rfl), F41, F55, hB, hZ⟩)
    · have hm := condF hb49 hm
      refine cW_exit ?_
      refine eX_then_exit ?_
      have hq : (some (Ctl.out l39) : Option (Ctl (Int × (List (Int))) ((List (Int))))) = some _ := hm
      replace hq := someE hq
      subst hq
      refine eX_outX hx48 (fun hr57 => ?_)
      replace hr57 := hr57.symm
      subst hr57
      refine eX_block_hit ?_
      exact eX_J (fun hst => ⟨l39, rfl, Fr.of hst (by kernel_rfl), F42, hB, hZ⟩)
  · rintro a' w33 ⟨l34, hJ, hF35, F36, hB, hZ⟩
    subst hJ
    refine Fr.goX hF35 (by kernel_rfl) ?_
    refine eX_then ?_
    refine cW_seq ?_
    refine cW_region ?_
    refine wS_pure 2 [(2, .slice (some ⟨b3, 0, none⟩) (l34).length (Int.toNat (((l0).length : Int)))), (21, .slice (some ⟨b3, 0, none⟩) (l34).length (Int.toNat (((l0).length : Int))))] (by kernel_rfl) ?_
    refine wS_end (by rfl) ?_
    refine eX_then ?_
    refine cW_ret ?_
    have hq : (some l34 : Option ((List (Int)))) = some _ := hm
    replace hq := someE hq
    subst hq
    refine eX_ret (vs := [.slice (some ⟨b3, 0, none⟩) (l34).length (Int.toNat (((l0).length : Int)))]) [.tmp 2] (by rfl) ⟨by (show lkE _ _ _ = _); kernel_rfl, trivial⟩ ?_
    exact ⟨(some ⟨b3, 0, none⟩), (Int.toNat (((l0).length : Int))), [b3], rfl, F36, G5, hB⟩

set_option maxRecDepth 100000 in
/-- laws.toInt64SS -/
theorem c_laws_toInt64SS {w0 : World} {l0 : List (List (Int))} {A0 : Option Addr} {cap0 : Nat} {fp0 : List Nat} {r : (List (List (Int)))} (hm : m_laws_toInt64SS l0 = some r) (F0 : SlR 1 encI w0 fp0 A0 l0) :
    Calls Try.prog 83 #[.slice A0 (l0).length cap0] w0 fun e w' => ∃ A100 cap100 fp100 fr100, e = .returned (.slice A100 (r).length cap100) ∧ OwR 1 encI 25 2 w' fp100 fr100 A100 cap100 r ∧ (∀ x ∈ fp100 ++ fr100, w0.heap.size ≤ x) ∧ Chg [] w0 w' := by
  have L0 := F0.low
  have hB : Chg [] w0 w0 := Chg.refl _ _
  have hZ := Nat.le_refl w0.heap.size
  unfold m_laws_toInt64SS at hm
  refine enterE (N := 23) Try.func83 (by rfl) Try.ntmps83 (by simp) [(0, .slice A0 (l0).length cap0)] (by rfl) (by kernel_rfl) (fun a => ?_)
  refine cW_seq ?_
  refine cW_region ?_
  refine wS_pure 1 [(2, .slice none 0 0)] (by kernel_rfl) ?_
  refine wS_end (by rfl) ?_
  refine eX_then ?_
  refine cW_seq ?_
  refine cW_region ?_
  refine wS_pure 2 [(6, .int .i64 (((l0).length : Int))), (5, .slice A0 (l0).length cap0)] (by kernel_rfl) ?_
  obtain ⟨_, hk2, hm⟩ := bindE hm
  replace hk2 := mkE hk2
  refine wS_makeR (T2 := 2) (k := 1) (enc := encI) (d := 7) (t := 24) (T := 25) (k1 := .i64) (k2 := .i64) (m := ((l0).length : Int)) (by kernel_rfl) el24 hk2.1 hk2.2 ?_
  intro b3 w4 G5 F6 hc7
  replace F0 := F0.chg hc7 Dj.nil
  replace hB := hB.inS hc7 inNil
  replace G5 := Nat.le_trans hZ G5
  replace G5 := low1 G5
  replace hZ := Nat.le_trans hZ hc7.size
  replace G5 := lowApp G5 lowNil
  refine wS_pure 1 [(3, .slice (some ⟨b3, 0, none⟩) (List.replicate (Int.toNat (((l0).length : Int))) ([] : List (Int))).length (Int.toNat (((l0).length : Int))))] (by kernel_rfl) ?_
  refine wS_end (by rfl) ?_
  refine eX_then ?_
  refine cW_seq ?_
  refine cW_seq ?_
  refine cW_region ?_
  refine wS_pure 1 [(4, .int .i64 (0))] (by kernel_rfl) ?_
  refine wS_end (by rfl) ?_
  refine eX_then ?_
  obtain ⟨r109, hr110, hm⟩ := bindE hm
  have hm111 := hm
  refine cW_cut (fun a' w' => ∃ l88 : List (List (Int)), ∃ A89 : Option Addr, ∃ cap90 : Nat, ∃ fp91 : List Nat, ∃ fr93 : List Nat, l88 = r109 ∧ Fr 23 [(3, .slice A89 (l88).length cap90)] a' ∧ OwR 1 encI 25 2 w' fp91 fr93 A89 cap90 l88 ∧ (∀ x ∈ (fp91 ++ fr93), w0.heap.size ≤ x) ∧ Chg [] w0 w' ∧ w0.heap.size ≤ w'.heap.size) ?_ ?_
  · refine cW_block ?_
    refine cW_loop _ (fun (s112 : (List (List (Int))) × Int) a' w' => ∃ l98 : List (List (Int)), ∃ A99 : Option Addr, ∃ cap100 : Nat, ∃ fp101 : List Nat, ∃ fr103 : List Nat, ∃ x104 : Int, (l98, x104) = s112 ∧ Fr 23 [(0, .slice A0 (l0).length cap0), (3, .slice A99 (l98).length cap100), (4, .int .i64 (x104))] a' ∧ SlR 1 encI w' fp0 A0 l0 ∧ OwR 1 encI 25 2 w' fp101 fr103 A99 cap100 l98 ∧ (∀ x ∈ (fp101 ++ fr103), w0.heap.size ≤ x) ∧ Chg [] w0 w' ∧ w0.heap.size ≤ w'.heap.size) hr110 (fun hst => ⟨List.replicate (Int.toNat (((l0).length : Int))) ([] : List (Int)), (some ⟨b3, 0, none⟩), (Int.toNat (((l0).length : Int))), [b3], [], 0, rfl, Fr.of hst (by kernel_rfl), F0, F6, G5, hB, hZ⟩) ?_
    rintro _ c113 a' w97 ⟨l98, A99, cap100, fp101, fr103, x104, rfl, hF105, F106, F107, G108, hB, hZ⟩ hx114
    refine Fr.goOn hF105 (by kernel_rfl) ?_
    have hm := hx114
    unfold m_laws_toInt64SS_s1 at hm
    refine cW_seq ?_
    refine cW_seq ?_
    refine cW_region ?_
    refine wS_pure 4 [(11, .bool (decide (x104 < (((l0).length : Int))))), (10, .int .i64 (((l0).length : Int))), (9, .slice A0 (l0).length cap0), (8, .int .i64 (x104))] (by kernel_rfl) ?_
    refine wS_end (by rfl) ?_
    refine eX_then ?_
    refine cW_cond (t := decide (x104 < (((l0).length : Int)))) (by kernel_rfl) (fun hb115 => ?_) (fun hb115 => ?_)
    · have hm := condT hb115 hm
      refine cW_skip ?_
      refine eX_then ?_
      refine cW_seq ?_
      refine cW_block ?_
      refine cW_region ?_
      refine wS_pure 4 [(17, .int .i64 (x104)), (16, .slice A0 (l0).length cap0), (15, .int .i64 (x104)), (14, .slice A99 (l98).length cap100)] (by kernel_rfl) ?_
      obtain ⟨x116, hx117, hm⟩ := bindE hm
      refine wS_idx (d := 18) (T := 24) (A := A0) (n := (l0).length) (cap := cap0) (kd := .i64) (m := x104) (by kernel_rfl) sl24 (F106.is hx117) ?_
      obtain ⟨A118, cap119, hc121, F120, K122⟩ := SlR.row F106 hx117
      refine wS_load1 (d := 19) (T := 25) (ad := (elA A0 1 (x104) 0)) (v := .slice A118 (x116).length cap119) (by kernel_rfl) vt25 hc121 ?_
      obtain ⟨y124, hy125, hm⟩ := bindE hm
      refine wS_calls (d := 20) (f := 50) (vs := [.slice A118 (x116).length cap119]) (by kernel_rfl) ent50 (c_laws_toInt64S hy125 F120) ?_
      rintro _ w126 ⟨A128, cap129, fp130, rfl, F131, G132, hc127⟩
      have D135 : Dj (fp101 ++ fr103) fp130 := Dj.of F107.low G132
      replace F106 := F106.chg hc127 Dj.nil
      replace F107 := F107.chg hc127 Dj.nil
      replace F120 := F120.chg hc127 Dj.nil
      replace hB := hB.inS hc127 inNil
      replace G132 := low_le hZ G132
      replace hZ := Nat.le_trans hZ hc127.size
      refine ⟨.slice A128 (y124).length cap129, rfl, ?_⟩
      obtain ⟨x136, hx137, hm⟩ := bindE hm
      refine wS_idx (d := 21) (T := 24) (A := A99) (n := (l98).length) (cap := cap100) (kd := .i64) (m := x104) (by kernel_rfl) sl24 ((F107.slr encI_ok).is hx137) ?_
      refine wS_storeRow (k := 1) (enc := encI) (x := x136) (l := y124) (T := 25) (U := 25) (cap := cap100) (c := cap129) (A := A99) (B := A128) (m := x104) (by kernel_rfl) sz25 F107 F131 D135 hx137 ?_
      intro w141 F142 hc143
      have G145 := lowApp (low_inl G108) (lowApp (low_inr G108) G132)
      have Dm146 := Dj.inl D135.symm
      replace F106 := F106.chg hc143 (Dj.inl (Dj.of L0 G108))
      replace F120 := F120.chg hc143 (Dj.inl (Dj.of L0 G108))
      replace F131 := F131.chg hc143 (Dj.inl (D135).symm)
      replace hB := hB.inS hc143 (memS_inl (inLow G108))
      replace hZ := Nat.le_trans hZ hc143.size
      replace F131 := (F131.sl encI_ok)
      rewrite [show (l98).length = (l98.set (Int.toNat x104) y124).length from (List.length_set ..).symm]
      refine wS_end (by rfl) ?_
      refine eX_block ?_
      refine eX_then ?_
      refine cW_region ?_
      refine wS_pure 3 [(4, .int .i64 (wr (x104 + 1))), (13, .int .i64 (wr (x104 + 1))), (12, .int .i64 (x104))] (by kernel_rfl) ?_
      refine wS_end (by rfl) ?_
      have hq : (some (Ctl.next ((l98.set (Int.toNat x104) y124, wr (x104 + 1)))) : Option (Ctl ((List (List (Int))) × Int) ((List (List (Int)))))) = some _ := hm
      replace hq := someE hq
      subst hq
      exact eX_next hx114 (fun hst => ⟨l98.set (Int.toNat x104) y124, A99, cap100, fp101, (fr103 ++ fp130), wr (x104 + 1), rfl, Fr.of hst (by kernel_rfl), F106, F142, G145, hB, hZ⟩)
    · have hm := condF hb115 hm
      refine cW_exit ?_
      refine eX_then_exit ?_
      have hq : (some (Ctl.out l98) : Option (Ctl ((List (List (Int))) × Int) ((List (List (Int)))))) = some _ := hm
      replace hq := someE hq
      subst hq
      refine eX_outX hx114 (fun hr147 => ?_)
      replace hr147 := hr147.symm
      subst hr147
      refine eX_block_hit ?_
      exact eX_J (fun hst => ⟨l98, A99, cap100, fp101, fr103, rfl, Fr.of hst (by kernel_rfl), F107, G108, hB, hZ⟩)
  · rintro a' w87 ⟨l88, A89, cap90, fp91, fr93, hJ, hF94, F95, G96, hB, hZ⟩
    subst hJ
    refine Fr.goX hF94 (by kernel_rfl) ?_
    refine eX_then ?_
    refine cW_seq ?_
    refine cW_region ?_
    refine wS_pure 2 [(2, .slice A89 (l88).length cap90), (22, .slice A89 (l88).length cap90)] (by kernel_rfl) ?_
    refine wS_end (by rfl) ?_
    refine eX_then ?_
    refine cW_ret ?_
    have hq : (some l88 : Option ((List (List (Int))))) = some _ := hm
    replace hq := someE hq
    subst hq
    refine eX_ret (vs := [.slice A89 (l88).length cap90]) [.tmp 2] (by rfl) ⟨by (show lkE _ _ _ = _); kernel_rfl, trivial⟩ ?_
    exact ⟨A89, cap90, fp91, fr93, rfl, F95, G96, hB⟩

set_option maxRecDepth 100000 in
/-- laws.toWiring -/
theorem c_laws_toWiring {w0 : World} {p0_0 : Int} {l0_1 : List (List (Int))} {A0_1 : Option Addr} {cap0_1 : Nat} {fp0_1 : List Nat} {l0_2 : List (List (Int))} {A0_2 : Option Addr} {cap0_2 : Nat} {fp0_2 : List Nat} {l0_3 : List (Int)} {A0_3 : Option Addr} {cap0_3 : Nat} {fp0_3 : List Nat} {r : (Int × (List (List (Int))) × (List (List (Int))) × (List (Int)))} (hm : m_laws_toWiring p0_0 l0_1 l0_2 l0_3 = some r) (F0_1 : SlR 1 encI w0 fp0_1 A0_1 l0_1) (F0_2 : SlR 1 encI w0 fp0_2 A0_2 l0_2) (F0_3 : Sl 1 encI w0 fp0_3 A0_3 l0_3) :
    Calls Try.prog 39 #[.agg #[.int .i64 (p0_0), .slice A0_1 (l0_1).length cap0_1, .slice A0_2 (l0_2).length cap0_2, .slice A0_3 (l0_3).length cap0_3]] w0 fun e w' => ∃ A100_1 cap100_1 fp100_1 fr100_1, ∃ A100_2 cap100_2 fp100_2 fr100_2, ∃ A100_3 cap100_3 fp100_3, e = .returned (.agg #[.int .i64 (r.1), .slice A100_1 (r.2.1).length cap100_1, .slice A100_2 (r.2.2.1).length cap100_2, .slice A100_3 (r.2.2.2).length cap100_3]) ∧ OwR 1 encI 25 2 w' fp100_1 fr100_1 A100_1 cap100_1 r.2.1 ∧ (∀ x ∈ fp100_1 ++ fr100_1, w0.heap.size ≤ x) ∧ OwR 1 encI 25 2 w' fp100_2 fr100_2 A100_2 cap100_2 r.2.2.1 ∧ (∀ x ∈ fp100_2 ++ fr100_2, w0.heap.size ≤ x) ∧ Ow 1 encI 2 w' fp100_3 A100_3 cap100_3 r.2.2.2 ∧ (∀ x ∈ fp100_3, w0.heap.size ≤ x) ∧ Dj (fp100_1 ++ fr100_1) (fp100_2 ++ fr100_2) ∧ Dj (fp100_1 ++ fr100_1) fp100_3 ∧ Dj (fp100_2 ++ fr100_2) fp100_3 ∧ Chg [] w0 w' := by
  have L0_1 := F0_1.low
  have L0_2 := F0_2.low
  have L0_3 := F0_3.low
  have hB : Chg [] w0 w0 := Chg.refl _ _
  have hZ := Nat.le_refl w0.heap.size
  unfold m_laws_toWiring at hm
  refine enterE (N := 20) Try.func39 (by rfl) Try.ntmps39 (by simp) [(0, .agg #[.int .i64 (p0_0), .slice A0_1 (l0_1).length cap0_1, .slice A0_2 (l0_2).length cap0_2, .slice A0_3 (l0_3).length cap0_3])] (by rfl) (by kernel_rfl) (fun a => ?_)
  refine cW_seq ?_
  refine cW_region ?_
  refine wS_box (d := 1) (T := 59) (x := .agg #[.int .i64 (p0_0), .slice A0_1 (l0_1).length cap0_1, .slice A0_2 (l0_2).length cap0_2, .slice A0_3 (l0_3).length cap0_3]) (by kernel_rfl) ?_
  intro b4 w5 G6 F7 hc8
  replace F7 : Cl w5 b4 59 [.int .i64 (p0_0), .slice A0_1 (l0_1).length cap0_1, .slice A0_2 (l0_2).length cap0_2, .slice A0_3 (l0_3).length cap0_3] := F7
  replace F0_1 := F0_1.chg hc8 Dj.nil
  replace F0_2 := F0_2.chg hc8 Dj.nil
  replace F0_3 := F0_3.chg hc8 Dj.nil
  replace hB := hB.inS hc8 inNil
  replace G6 := Nat.le_trans hZ G6
  replace hZ := Nat.le_trans hZ hc8.size
  refine wS_alloc (d := 2) (T := 27) (z := .agg #[.int .i64 (0), .slice none 0 0, .slice none 0 0, .slice none 0 0]) (by kernel_rfl) (by kernel_rfl) ?_
  intro b10 w11 G12 F13 hc14
  replace F13 : Cl w11 b10 27 [.int .i64 (0), .slice none 0 0, .slice none 0 0, .slice none 0 0] := F13
  have D16 : Dj [b4] [b10] := Dj.of (lt1 F7.lt) (low1 G12)
  replace F0_1 := F0_1.chg hc14 Dj.nil
  replace F0_2 := F0_2.chg hc14 Dj.nil
  replace F0_3 := F0_3.chg hc14 Dj.nil
  replace F7 := F7.chg hc14 notNil
  replace hB := hB.inS hc14 inNil
  replace G12 := Nat.le_trans hZ G12
  replace hZ := Nat.le_trans hZ hc14.size
  refine wS_end (by rfl) ?_
  refine eX_then ?_
  refine cW_seq ?_
  refine cW_region ?_
  refine wS_alloc (d := 3) (T := 27) (z := .agg #[.int .i64 (0), .slice none 0 0, .slice none 0 0, .slice none 0 0]) (by kernel_rfl) (by kernel_rfl) ?_
  intro b17 w18 G19 F20 hc21
  replace F20 : Cl w18 b17 27 [.int .i64 (0), .slice none 0 0, .slice none 0 0, .slice none 0 0] := F20
  have D23 : Dj [b4] [b17] := Dj.of (lt1 F7.lt) (low1 G19)
  have D24 : Dj [b10] [b17] := Dj.of (lt1 F13.lt) (low1 G19)
  replace F0_1 := F0_1.chg hc21 Dj.nil
  replace F0_2 := F0_2.chg hc21 Dj.nil
  replace F0_3 := F0_3.chg hc21 Dj.nil
  replace F7 := F7.chg hc21 notNil
  replace F13 := F13.chg hc21 notNil
  replace hB := hB.inS hc21 inNil
  replace G19 := Nat.le_trans hZ G19
  replace hZ := Nat.le_trans hZ hc21.size
  refine wS_end (by rfl) ?_
  refine eX_then ?_
  refine cW_seq ?_
  refine cW_region ?_
  refine wS_pure 1 [(4, .pointer (some ⟨b4, 0, none⟩))] (by kernel_rfl) ?_
  refine wS_load1 (d := 5) (T := 2) (ad := ⟨b4, 0, none⟩) (v := .int .i64 (p0_0)) (by kernel_rfl) vt2 ((F7).cell 0) ?_
  refine wS_pure 1 [(6, .pointer (some ⟨b17, 0, none⟩))] (by kernel_rfl) ?_
  refine wS_store (T := 2) (g := b17) (o := 0) (ad := ⟨b17, 0, none⟩) (v := .int .i64 (p0_0)) (vs := [.int .i64 (p0_0)]) (by kernel_rfl) (by rfl) sz2 (by rfl) (by rfl) F20 (by simp only [List.length_cons, List.length_nil]; omega) ?_
  intro w25 F26 hc27
  replace F0_1 := F0_1.chg hc27 (Dj.of L0_1 (low1 G19))
  replace F0_2 := F0_2.chg hc27 (Dj.of L0_2 (low1 G19))
  replace F0_3 := F0_3.chg hc27 (Dj.of L0_3 (low1 G19))
  replace F7 := F7.chg hc27 (dj1 D23)
  replace F13 := F13.chg hc27 (dj1 D24)
  replace hB := hB.inS hc27 (inLow (low1 G19))
  replace hZ := Nat.le_trans hZ hc27.size
  replace F26 : Cl w25 b17 27 [.int .i64 (p0_0), .slice none 0 0, .slice none 0 0, .slice none 0 0] := F26
  clear F20
  refine wS_end (by rfl) ?_
  refine eX_then ?_
  refine cW_seq ?_
  refine cW_region ?_
  refine wS_pure 1 [(7, .pointer (some ⟨b4, 1, none⟩))] (by kernel_rfl) ?_
  refine wS_load1 (d := 8) (T := 24) (ad := ⟨b4, 1, none⟩) (v := .slice A0_1 (l0_1).length cap0_1) (by kernel_rfl) vt24 ((F7).cell 1) ?_
  obtain ⟨y28, hy29, hm⟩ := bindE hm
  refine wS_calls (d := 9) (f := 83) (vs := [.slice A0_1 (l0_1).length cap0_1]) (by kernel_rfl) ent83 (c_laws_toInt64SS hy29 F0_1) ?_
  rintro _ w30 ⟨A32, cap33, fp34, fr37, rfl, F35, G36, hc31⟩
  have D39 : Dj [b4] (fp34 ++ fr37) := Dj.of (lt1 F7.lt) G36
  have D40 : Dj [b10] (fp34 ++ fr37) := Dj.of (lt1 F13.lt) G36
  have D41 : Dj [b17] (fp34 ++ fr37) := Dj.of (lt1 F26.lt) G36
  replace F0_1 := F0_1.chg hc31 Dj.nil
  replace F0_2 := F0_2.chg hc31 Dj.nil
  replace F0_3 := F0_3.chg hc31 Dj.nil
  replace F7 := F7.chg hc31 notNil
  replace F13 := F13.chg hc31 notNil
  replace F26 := F26.chg hc31 notNil
  replace hB := hB.inS hc31 inNil
  replace G36 := low_le hZ G36
  replace hZ := Nat.le_trans hZ hc31.size
  refine ⟨.slice A32 (y28).length cap33, rfl, ?_⟩
  refine wS_pure 1 [(10, .pointer (some ⟨b17, 1, none⟩))] (by kernel_rfl) ?_
  refine wS_store (T := 24) (g := b17) (o := 1) (ad := ⟨b17, 1, none⟩) (v := .slice A32 (y28).length cap33) (vs := [.slice A32 (y28).length cap33]) (by kernel_rfl) (by rfl) sz24 (by rfl) (by rfl) F26 (by simp only [List.length_cons, List.length_nil]; omega) ?_
  intro w42 F43 hc44
  replace F0_1 := F0_1.chg hc44 (Dj.of L0_1 (low1 G19))
  replace F0_2 := F0_2.chg hc44 (Dj.of L0_2 (low1 G19))
  replace F0_3 := F0_3.chg hc44 (Dj.of L0_3 (low1 G19))
  replace F7 := F7.chg hc44 (dj1 D23)
  replace F13 := F13.chg hc44 (dj1 D24)
  replace F35 := F35.chg hc44 (D41).symm
  replace hB := hB.inS hc44 (inLow (low1 G19))
  replace hZ := Nat.le_trans hZ hc44.size
  replace F43 : Cl w42 b17 27 [.int .i64 (p0_0), .slice A32 (y28).length cap33, .slice none 0 0, .slice none 0 0] := F43
  clear F26
  refine wS_end (by rfl) ?_
  refine eX_then ?_
  refine cW_seq ?_
  refine cW_region ?_
  refine wS_pure 1 [(11, .pointer (some ⟨b4, 2, none⟩))] (by kernel_rfl) ?_
  refine wS_load1 (d := 12) (T := 24) (ad := ⟨b4, 2, none⟩) (v := .slice A0_2 (l0_2).length cap0_2) (by kernel_rfl) vt24 ((F7).cell 2) ?_
  obtain ⟨y45, hy46, hm⟩ := bindE hm
  refine wS_calls (d := 13) (f := 83) (vs := [.slice A0_2 (l0_2).length cap0_2]) (by kernel_rfl) ent83 (c_laws_toInt64SS hy46 F0_2) ?_
  rintro _ w47 ⟨A49, cap50, fp51, fr54, rfl, F52, G53, hc48⟩
  have D56 : Dj [b4] (fp51 ++ fr54) := Dj.of (lt1 F7.lt) G53
  have D57 : Dj [b10] (fp51 ++ fr54) := Dj.of (lt1 F13.lt) G53
  have D58 : Dj [b17] (fp51 ++ fr54) := Dj.of (lt1 F43.lt) G53
  have D59 : Dj (fp34 ++ fr37) (fp51 ++ fr54) := Dj.of F35.low G53
  replace F0_1 := F0_1.chg hc48 Dj.nil
  replace F0_2 := F0_2.chg hc48 Dj.nil
  replace F0_3 := F0_3.chg hc48 Dj.nil
  replace F7 := F7.chg hc48 notNil
  replace F13 := F13.chg hc48 notNil
  replace F43 := F43.chg hc48 notNil
  replace F35 := F35.chg hc48 Dj.nil
  replace hB := hB.inS hc48 inNil
  replace G53 := low_le hZ G53
  replace hZ := Nat.le_trans hZ hc48.size
  refine ⟨.slice A49 (y45).length cap50, rfl, ?_⟩
  refine wS_pure 1 [(14, .pointer (some ⟨b17, 2, none⟩))] (by kernel_rfl) ?_
  refine wS_store (T := 24) (g := b17) (o := 2) (ad := ⟨b17, 2, none⟩) (v := .slice A49 (y45).length cap50) (vs := [.slice A49 (y45).length cap50]) (by kernel_rfl) (by rfl) sz24 (by rfl) (by rfl) F43 (by simp only [List.length_cons, List.length_nil]; omega) ?_
  intro w60 F61 hc62
  replace F0_1 := F0_1.chg hc62 (Dj.of L0_1 (low1 G19))
  replace F0_2 := F0_2.chg hc62 (Dj.of L0_2 (low1 G19))
  replace F0_3 := F0_3.chg hc62 (Dj.of L0_3 (low1 G19))
  replace F7 := F7.chg hc62 (dj1 D23)
  replace F13 := F13.chg hc62 (dj1 D24)
  replace F35 := F35.chg hc62 (D41).symm
  replace F52 := F52.chg hc62 (D58).symm
  replace hB := hB.inS hc62 (inLow (low1 G19))
  replace hZ := Nat.le_trans hZ hc62.size
  replace F61 : Cl w60 b17 27 [.int .i64 (p0_0), .slice A32 (y28).length cap33, .slice A49 (y45).length cap50, .slice none 0 0] := F61
  clear F43
  refine wS_end (by rfl) ?_
  refine eX_then ?_
  refine cW_seq ?_
  refine cW_region ?_
  refine wS_pure 1 [(15, .pointer (some ⟨b4, 3, none⟩))] (by kernel_rfl) ?_
  refine wS_load1 (d := 16) (T := 25) (ad := ⟨b4, 3, none⟩) (v := .slice A0_3 (l0_3).length cap0_3) (by kernel_rfl) vt25 ((F7).cell 3) ?_
  obtain ⟨y63, hy64, hm⟩ := bindE hm
  refine wS_calls (d := 17) (f := 50) (vs := [.slice A0_3 (l0_3).length cap0_3]) (by kernel_rfl) ent50 (c_laws_toInt64S hy64 F0_3) ?_
  rintro _ w65 ⟨A67, cap68, fp69, rfl, F70, G71, hc66⟩
  have D74 : Dj [b4] fp69 := Dj.of (lt1 F7.lt) G71
  have D75 : Dj [b10] fp69 := Dj.of (lt1 F13.lt) G71
  have D76 : Dj [b17] fp69 := Dj.of (lt1 F61.lt) G71
  have D77 : Dj (fp34 ++ fr37) fp69 := Dj.of F35.low G71
  have D78 : Dj (fp51 ++ fr54) fp69 := Dj.of F52.low G71
  replace F0_1 := F0_1.chg hc66 Dj.nil
  replace F0_2 := F0_2.chg hc66 Dj.nil
  replace F0_3 := F0_3.chg hc66 Dj.nil
  replace F7 := F7.chg hc66 notNil
  replace F13 := F13.chg hc66 notNil
  replace F61 := F61.chg hc66 notNil
  replace F35 := F35.chg hc66 Dj.nil
  replace F52 := F52.chg hc66 Dj.nil
  replace hB := hB.inS hc66 inNil
  replace G71 := low_le hZ G71
  replace hZ := Nat.le_trans hZ hc66.size
  refine ⟨.slice A67 (y63).length cap68, rfl, ?_⟩
  refine wS_pure 1 [(18, .pointer (some ⟨b17, 3, none⟩))] (by kernel_rfl) ?_
  refine wS_store (T := 25) (g := b17) (o := 3) (ad := ⟨b17, 3, none⟩) (v := .slice A67 (y63).length cap68) (vs := [.slice A67 (y63).length cap68]) (by kernel_rfl) (by rfl) sz25 (by rfl) (by rfl) F61 (by simp only [List.length_cons, List.length_nil]; omega) ?_
  intro w79 F80 hc81
  replace F0_1 := F0_1.chg hc81 (Dj.of L0_1 (low1 G19))
  replace F0_2 := F0_2.chg hc81 (Dj.of L0_2 (low1 G19))
  replace F0_3 := F0_3.chg hc81 (Dj.of L0_3 (low1 G19))
  replace F7 := F7.chg hc81 (dj1 D23)
  replace F13 := F13.chg hc81 (dj1 D24)
  replace F35 := F35.chg hc81 (D41).symm
  replace F52 := F52.chg hc81 (D58).symm
  replace F70 := F70.chg hc81 (D76).symm
  replace hB := hB.inS hc81 (inLow (low1 G19))
  replace hZ := Nat.le_trans hZ hc81.size
  replace F80 : Cl w79 b17 27 [.int .i64 (p0_0), .slice A32 (y28).length cap33, .slice A49 (y45).length cap50, .slice A67 (y63).length cap68] := F80
  clear F61
  refine wS_end (by rfl) ?_
  refine eX_then ?_
  refine cW_seq ?_
  refine cW_region ?_
  refine wS_loadA (d := 19) (T := 27) (ad := ⟨b17, 0, none⟩) (vs := [.int .i64 (p0_0), .slice A32 (y28).length cap33, .slice A49 (y45).length cap50, .slice A67 (y63).length cap68]) (by kernel_rfl) vt27 (fun i u hu => box_cells F80 0 hu (by rfl)) ?_
  refine wS_store (T := 27) (g := b10) (o := 0) (ad := ⟨b10, 0, none⟩) (v := .agg #[.int .i64 (p0_0), .slice A32 (y28).length cap33, .slice A49 (y45).length cap50, .slice A67 (y63).length cap68]) (vs := [.int .i64 (p0_0), .slice A32 (y28).length cap33, .slice A49 (y45).length cap50, .slice A67 (y63).length cap68]) (by kernel_rfl) (by rfl) sz27 (by rfl) (by rfl) F13 (by simp only [List.length_cons, List.length_nil]; omega) ?_
  intro w82 F83 hc84
  replace F0_1 := F0_1.chg hc84 (Dj.of L0_1 (low1 G12))
  replace F0_2 := F0_2.chg hc84 (Dj.of L0_2 (low1 G12))
  replace F0_3 := F0_3.chg hc84 (Dj.of L0_3 (low1 G12))
  replace F7 := F7.chg hc84 (dj1 D16)
  replace F80 := F80.chg hc84 (dj1 (D24).symm)
  replace F35 := F35.chg hc84 (D40).symm
  replace F52 := F52.chg hc84 (D57).symm
  replace F70 := F70.chg hc84 (D75).symm
  replace hB := hB.inS hc84 (inLow (low1 G12))
  replace hZ := Nat.le_trans hZ hc84.size
  replace F83 : Cl w82 b10 27 [.int .i64 (p0_0), .slice A32 (y28).length cap33, .slice A49 (y45).length cap50, .slice A67 (y63).length cap68] := F83
  clear F13
  refine wS_end (by rfl) ?_
  refine eX_then ?_
  refine cW_ret ?_
  have hq : (some ((p0_0, y28, y45, y63)) : Option ((Int × (List (List (Int))) × (List (List (Int))) × (List (Int))))) = some _ := hm
  replace hq := someE hq
  subst hq
  refine eX_ret (vs := [.agg #[.int .i64 (p0_0), .slice A32 (y28).length cap33, .slice A49 (y45).length cap50, .slice A67 (y63).length cap68]]) [.cell 2 27] (by rfl) ⟨⟨⟨b10, 0, none⟩, by kernel_rfl, run_loadVarA (vs := [.int .i64 (p0_0), .slice A32 (y28).length cap33, .slice A49 (y45).length cap50, .slice A67 (y63).length cap68]) vt27 (fun i u hu => by exact box_cells F83 0 hu (by rfl))⟩, trivial⟩ ?_
  exact ⟨A32, cap33, fp34, fr37, A49, cap50, fp51, fr54, A67, cap68, fp69, rfl, F35, G36, F52, G53, F70, G71, D59, D77, D78, hB⟩

end Go.Proofs.Ytngnljnfbfgfeaa
