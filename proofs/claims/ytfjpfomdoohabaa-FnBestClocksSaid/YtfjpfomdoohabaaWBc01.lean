/- Printed walks: laws.r8Long, spec.l00From, (*spec.l00Src).next, (*spec.l00Src).pick, spec.R8Pins, impl.NearestJoins$1, slices.IndexFunc[[]int,int], slices.DeleteFunc[[]int,int], impl.NearestJoins, spec.R8Joins. -/
import Derived.Test.YtfjpfomdoohabaaProg
import Derived.Test.YtfjpfomdoohabaaMod
import Derived.Test.YtfjpfomdoohabaaWBj02
set_option linter.unusedSimpArgs false
set_option linter.unusedVariables false
namespace Go.Proofs.Ytfjpfomdoohabaa
open Go.RowKit
attribute [local irreducible] wS cW eX wH

theorem ent21 : Ent Try.prog 21 := fun _ => by kernel_rfl
theorem ent22 : Ent Try.prog 22 := fun _ => by kernel_rfl
theorem ent28 : Ent Try.prog 28 := fun _ => by kernel_rfl
theorem ent29 : Ent Try.prog 29 := fun _ => by kernel_rfl
theorem ent39 : Ent Try.prog 39 := fun _ => by kernel_rfl
theorem ent50 : Ent Try.prog 50 := fun _ => by kernel_rfl
theorem vt3 : VarTy Try.prog 3 1 false := ⟨by kernel_rfl, by kernel_rfl⟩
theorem vt5 : VarTy Try.prog 5 1 false := ⟨by kernel_rfl, by kernel_rfl⟩
theorem vt22 : VarTy Try.prog 22 1 false := ⟨by kernel_rfl, by kernel_rfl⟩
theorem vt77 : VarTy Try.prog 77 1 false := ⟨by kernel_rfl, by kernel_rfl⟩
theorem sl22 : SlTy Try.prog 22 5 1 := ⟨Try.underlying22, by kernel_rfl⟩
theorem sl60 : SlTy Try.prog 60 3 1 := ⟨Try.underlying60, by kernel_rfl⟩
theorem el24 : ElTy Try.prog 24 49 2 (.agg #[.int .i64 (0), .int .i64 (0)]) := ElTy.mk' Try.underlying24 (by kernel_rfl) (by rfl)
theorem el60 : ElTy Try.prog 60 3 1 (.int .i64 (0)) := ElTy.mk' Try.underlying60 (by kernel_rfl) (by rfl)
theorem sz3 : pureRun Try.prog (sizeOf 3) = some 1 := by kernel_rfl
theorem sz77 : pureRun Try.prog (sizeOf 77) = some 1 := by kernel_rfl

set_option maxRecDepth 100000 in
/-- laws.r8Long -/
theorem c_laws_r8Long {w0 : World} {l0 : List (Int)} {A0 : Option Addr} {cap0 : Nat} {fp0 : List Nat} {l1 : List (Int)} {A1 : Option Addr} {cap1 : Nat} {fp1 : List Nat} {r : (Bool)} (hm : m_laws_r8Long l0 l1 = some r) (F0 : Sl 1 encU w0 fp0 A0 l0) (F1 : Sl 1 encU w0 fp1 A1 l1) :
  Calls Try.prog 5 #[.slice A0 (l0).length cap0, .slice A1 (l1).length cap1] w0 fun e w' => e = .returned (.bool (r)) ∧ Chg [] w0 w' := by
 have L0 := F0.low
 have L1 := F1.low
 have hB : Chg [] w0 w0 := Chg.refl _ _
 have hZ := Nat.le_refl w0.heap.size
 unfold m_laws_r8Long at hm
 refine enterE (N := 13) Try.func5 (by rfl) Try.ntmps5 (by simp) [(0, .slice A0 (l0).length cap0), (1, .slice A1 (l1).length cap1)] (by rfl) (by kernel_rfl) (fun a => ?_)
 refine cW_seq ?_
 refine cW_region ?_
 refine wS_pure 1 [(4, .bool (false))] (by kernel_rfl) ?_
 refine wS_end (by rfl) ?_
 refine eX_then ?_
 refine cW_seq ?_
 refine cW_region ?_
 refine wS_pure 4 [(8, .bool (decide ((((l0).length : Int)) > 48))), (7, .bool (decide ((((l0).length : Int)) > 48))), (6, .int .i64 (((l0).length : Int))), (5, .slice A0 (l0).length cap0)] (by kernel_rfl) ?_
 refine wS_bool (decide ((((l0).length : Int)) > 48)) (fun hb1 => ?_) (fun hb1 => ?_)
 ·have hm := condT hb1 hm
  rewrite [hb1]
  refine wS_pure 5 [(4, .bool (true)), (12, .bool (true)), (11, undef), (10, undef), (9, undef)] (by kernel_rfl) ?_
  refine wS_end (by rfl) ?_
  refine eX_then ?_
  refine cW_ret ?_
  have hq : (some true : Option ((Bool))) = some _ := hm
  replace hq := someE hq
  subst hq
  refine eX_ret (vs := [.bool (true)]) [.tmp 4] (by rfl) ⟨by (show lkE _ _ _ = _); kernel_rfl, trivial⟩ ?_
  exact ⟨rfl, hB⟩
 ·have hm := condF hb1 hm
  rewrite [hb1]
  refine wS_pure 5 [(4, .bool (decide ((((l1).length : Int)) > 48))), (12, .bool (decide ((((l1).length : Int)) > 48))), (11, .bool (decide ((((l1).length : Int)) > 48))), (10, .int .i64 (((l1).length : Int))), (9, .slice A1 (l1).length cap1)] (by kernel_rfl) ?_
  refine wS_end (by rfl) ?_
  refine eX_then ?_
  refine cW_ret ?_
  have hq : (some (decide ((((l1).length : Int)) > 48)) : Option ((Bool))) = some _ := hm
  replace hq := someE hq
  subst hq
  refine eX_ret (vs := [.bool (decide ((((l1).length : Int)) > 48))]) [.tmp 4] (by rfl) ⟨by (show lkE _ _ _ = _); kernel_rfl, trivial⟩ ?_
  exact ⟨rfl, hB⟩

set_option maxRecDepth 100000 in
/-- spec.l00From -/
theorem c_spec_l00From {w0 : World} {l0 : List (Int)} {A0 : Option Addr} {cap0 : Nat} {fp0 : List Nat} {r : (Int × Int)} (hm : m_spec_l00From l0 = some r) (F0 : Sl 1 encU w0 fp0 A0 l0) :
  Calls Try.prog 21 #[.slice A0 (l0).length cap0] w0 fun e w' => ∃ b100, e = .returned (.pointer (some ⟨b100, 0, none⟩)) ∧ Cl w' b100 79 [.slice A0 (l0).length cap0, .int .i64 (r.1), .int .u64 (r.2)] ∧ w0.heap.size ≤ b100 ∧ Chg [] w0 w' := by
 have L0 := F0.low
 have hB : Chg [] w0 w0 := Chg.refl _ _
 have hZ := Nat.le_refl w0.heap.size
 unfold m_spec_l00From at hm
 refine enterE (N := 6) Try.func21 (by rfl) Try.ntmps21 (by simp) [(0, .slice A0 (l0).length cap0)] (by rfl) (by kernel_rfl) (fun a => ?_)
 refine cW_seq ?_
 refine cW_region ?_
 refine wS_pure 1 [(2, .pointer none)] (by kernel_rfl) ?_
 refine wS_end (by rfl) ?_
 refine eX_then ?_
 refine cW_seq ?_
 refine cW_region ?_
 refine wS_pure 2 [(4, .agg #[.slice A0 (l0).length cap0, .int .i64 (0), .int .u64 (0)]), (3, .slice A0 (l0).length cap0)] (by kernel_rfl) ?_
 refine wS_box (d := 5) (T := 79) (x := .agg #[.slice A0 (l0).length cap0, .int .i64 (0), .int .u64 (0)]) (by kernel_rfl) ?_
 intro b1 w1 G1 F1 hc1
 replace F1 : Cl w1 b1 79 [.slice A0 (l0).length cap0, .int .i64 (0), .int .u64 (0)] := F1
 replace F0 := F0.chg hc1 Dj.nil
 replace hB := hB.inS hc1 inNil
 replace G1 := Nat.le_trans hZ G1
 replace hZ := Nat.le_trans hZ hc1.size
 refine wS_pure 1 [(2, .pointer (some ⟨b1, 0, none⟩))] (by kernel_rfl) ?_
 refine wS_end (by rfl) ?_
 refine eX_then ?_
 refine cW_ret ?_
 have hq : (some ((0, 0)) : Option ((Int × Int))) = some _ := hm
 replace hq := someE hq
 subst hq
 refine eX_ret (vs := [.pointer (some ⟨b1, 0, none⟩)]) [.tmp 2] (by rfl) ⟨by (show lkE _ _ _ = _); kernel_rfl, trivial⟩ ?_
 exact ⟨b1, rfl, F1, G1, hB⟩

set_option maxRecDepth 100000 in
/-- spec.l00Src).next -/
theorem c_spec_l00Src_next_bspecl00Src {w0 : World} {l0_0 : List (Int)} {A0_0 : Option Addr} {cap0_0 : Nat} {fp0_0 : List Nat} {q0_1 : Int} {q0_2 : Int} {b0 : Nat} {r : (Int) × (Int) × (Int)} (hm : m_spec_l00Src_next_bspecl00Src l0_0 q0_1 q0_2 = some r) (F0_0 : Sl 1 encU w0 fp0_0 A0_0 l0_0) (F0 : Cl w0 b0 79 [.slice A0_0 (l0_0).length cap0_0, .int .i64 (q0_1), .int .u64 (q0_2)]) (J0__0_0 : Dj [b0] fp0_0) :
  Calls Try.prog 39 #[.pointer (some ⟨b0, 0, none⟩)] w0 fun e w' => e = .returned (.int .i64 (r.1)) ∧ Cl w' b0 79 [.slice A0_0 (l0_0).length cap0_0, .int .i64 (r.2.1), .int .u64 (r.2.2)] ∧ Chg ([b0] ++ []) w0 w' := by
 have L0_0 := F0_0.low
 have L0 := lt1 F0.lt
 have hB : Chg ([b0] ++ []) w0 w0 := Chg.refl _ _
 have hZ := Nat.le_refl w0.heap.size
 unfold m_spec_l00Src_next_bspecl00Src at hm
 refine enterE (N := 62) Try.func39 (by rfl) Try.ntmps39 (by simp) [(0, .pointer (some ⟨b0, 0, none⟩))] (by rfl) (by kernel_rfl) (fun a => ?_)
 refine cW_seq ?_
 refine cW_region ?_
 refine wS_pure 1 [(2, .int .i64 (0))] (by kernel_rfl) ?_
 refine wS_end (by rfl) ?_
 refine eX_then ?_
 refine cW_seq ?_
 refine cW_region ?_
 refine wS_pure 1 [(3, .int .i64 (0))] (by kernel_rfl) ?_
 refine wS_end (by rfl) ?_
 refine eX_then ?_
 refine cW_seq ?_
 obtain ⟨s1, hs1, hm⟩ := bindE hm
 refine cW_cut (fun a' w' => ∃ x1 : Int, x1 = s1 ∧ Fr 62 [(0, .pointer (some ⟨b0, 0, none⟩)), (3, .int .i64 (x1))] a' ∧ Sl 1 encU w' fp0_0 A0_0 l0_0 ∧ Cl w' b0 79 [.slice A0_0 (l0_0).length cap0_0, .int .i64 (q0_1), .int .u64 (q0_2)] ∧ Chg ([b0] ++ []) w0 w' ∧ w0.heap.size ≤ w'.heap.size) ?_ ?_
 ·have hm := hs1
  refine cW_seq ?_
  refine cW_drawnTail [] 9 (by kernel_rfl) (by kernel_rfl) (fun w1 hc1 => ?_)
  replace F0_0 := F0_0.chg hc1 Dj.nil
  replace F0 := F0.chg hc1 notNil
  replace hB := hB.inS hc1 inNil
  replace hZ := Nat.le_trans hZ hc1.size
  have hS := Chg.refl [] w1
  have Z1 := F0_0
  have Z2 := F0
  refine wH_take [0, 1, 2] [2, 1, 0] [(6, .pointer (some ⟨b0, 1, none⟩)), (5, .pointer (some ⟨b0, 0, none⟩)), (4, .pointer (some ⟨b0, 0, none⟩))] (by kernel_rfl) (qT (qT (qT (qT qZ)))) (by kernel_rfl) ?_
  refine wH_load1 (i := 3) (d := 7) (T := 3) (ad := ⟨b0, 1, none⟩) (v := .int .i64 (q0_1)) (by kernel_rfl) (qT (qT (qT (qT qZ)))) (by kernel_rfl) (by kernel_rfl) vt3 (fun W hW => (Z2.chg hW notNil).cell 1) ?_
  refine wH_take [4, 5, 6] [6, 5, 4, 3, 2, 1, 0] [(10, .pointer (some ⟨b0, 0, none⟩)), (9, .pointer (some ⟨b0, 0, none⟩)), (8, .pointer (some ⟨b0, 0, none⟩))] (by kernel_rfl) (qT (qT (qT (qT qZ)))) (by kernel_rfl) ?_
  refine wH_load1 (i := 7) (d := 11) (T := 22) (ad := ⟨b0, 0, none⟩) (v := .slice A0_0 (l0_0).length cap0_0) (by kernel_rfl) (qT (qT (qT (qT qZ)))) (by kernel_rfl) (by kernel_rfl) vt22 (fun W hW => (Z2.chg hW notNil).cell 0) ?_
  refine wH_take [8] [8, 7, 6, 5, 4, 3, 2, 1, 0] [(12, .int .i64 (((l0_0).length : Int)))] (by kernel_rfl) (qT (qT (qT (qT qZ)))) (by kernel_rfl) ?_
  refine wH_done (by kernel_rfl) ?_
  refine eX_tail ?_
  refine wS_pure 1 [(13, .bool (decide (q0_1 < (((l0_0).length : Int)))))] (by kernel_rfl) ?_
  refine wS_end (by rfl) ?_
  refine eX_then ?_
  refine cW_cond (t := decide (q0_1 < (((l0_0).length : Int)))) (by kernel_rfl) (fun hb1 => ?_) (fun hb1 => ?_)
  ·have hm := condT hb1 hm
   refine cW_drawnTail [] 8 (by kernel_rfl) (by kernel_rfl) (fun w2 hc2 => ?_)
   replace F0_0 := F0_0.chg hc2 Dj.nil
   replace F0 := F0.chg hc2 notNil
   replace hB := hB.inS hc2 inNil
   replace hZ := Nat.le_trans hZ hc2.size
   have hS := Chg.refl [] w2
   have Z3 := F0_0
   have Z4 := F0
   refine wH_take [0, 1, 2] [2, 1, 0] [(16, .pointer (some ⟨b0, 0, none⟩)), (15, .pointer (some ⟨b0, 0, none⟩)), (14, .pointer (some ⟨b0, 0, none⟩))] (by kernel_rfl) (qT (qT (qT qZ))) (by kernel_rfl) ?_
   refine wH_load1 (i := 3) (d := 17) (T := 22) (ad := ⟨b0, 0, none⟩) (v := .slice A0_0 (l0_0).length cap0_0) (by kernel_rfl) (qT (qT (qT qZ))) (by kernel_rfl) (by kernel_rfl) vt22 (fun W hW => (Z4.chg hW notNil).cell 0) ?_
   refine wH_take [4, 5, 6] [6, 5, 4, 3, 2, 1, 0] [(20, .pointer (some ⟨b0, 1, none⟩)), (19, .pointer (some ⟨b0, 0, none⟩)), (18, .pointer (some ⟨b0, 0, none⟩))] (by kernel_rfl) (qT (qT (qT qZ))) (by kernel_rfl) ?_
   refine wH_load1 (i := 7) (d := 21) (T := 3) (ad := ⟨b0, 1, none⟩) (v := .int .i64 (q0_1)) (by kernel_rfl) (qT (qT (qT qZ))) (by kernel_rfl) (by kernel_rfl) vt3 (fun W hW => (Z4.chg hW notNil).cell 1) ?_
   refine wH_done (by kernel_rfl) ?_
   refine eX_tail ?_
   obtain ⟨x2, hx1, hm⟩ := bindE hm
   refine wS_idx (d := 22) (T := 22) (A := A0_0) (n := (l0_0).length) (cap := cap0_0) (kd := .i64) (m := q0_1) (by kernel_rfl) sl22 (F0_0.is hx1) ?_
   refine wS_load1 (d := 23) (T := 5) (ad := (elA A0_0 1 (q0_1) 0)) (v := .int .u8 (x2)) (by kernel_rfl) vt5 (Sl.cell F0_0 hx1 0 (by rfl)) ?_
   refine wS_pure 2 [(3, .int .i64 (wr x2)), (24, .int .i64 (wr x2))] (by kernel_rfl) ?_
   refine wS_end (by rfl) ?_
   have hq : (some (wr x2) : Option (Int)) = some _ := hm
   replace hq := someE hq
   subst hq
   exact eX_J (fun hst => ⟨wr x2, rfl, Fr.of hst (by kernel_rfl), F0_0, F0, hB, hZ⟩)
  ·have hm := condF hb1 hm
   refine cW_skip ?_
   have hq : (some 0 : Option (Int)) = some _ := hm
   replace hq := someE hq
   subst hq
   exact eX_J (fun hst => ⟨0, rfl, Fr.of hst (by kernel_rfl), F0_0, F0, hB, hZ⟩)
 ·rintro a' w3 ⟨x1, hJ, hF1, F1, F2, hB, hZ⟩
  subst hJ
  refine Fr.goX hF1 (by kernel_rfl) ?_
  refine eX_then ?_
  refine cW_seq ?_
  refine cW_region ?_
  refine wS_pure 3 [(27, .pointer (some ⟨b0, 1, none⟩)), (26, .pointer (some ⟨b0, 0, none⟩)), (25, .pointer (some ⟨b0, 0, none⟩))] (by kernel_rfl) ?_
  refine wS_load1 (d := 28) (T := 3) (ad := ⟨b0, 1, none⟩) (v := .int .i64 (q0_1)) (by kernel_rfl) vt3 ((F2).cell 1) ?_
  refine wS_pure 3 [(31, .pointer (some ⟨b0, 1, none⟩)), (30, .pointer (some ⟨b0, 0, none⟩)), (29, .int .i64 (wr (q0_1 + 1)))] (by kernel_rfl) ?_
  refine wS_store (T := 3) (g := b0) (o := 1) (ad := ⟨b0, 1, none⟩) (v := .int .i64 (wr (q0_1 + 1))) (vs := [.int .i64 (wr (q0_1 + 1))]) (by kernel_rfl) (by rfl) sz3 (by rfl) (by rfl) F2 (by simp only [List.length_cons, List.length_nil]; omega) ?_
  intro w4 F3 hc3
  replace F1 := F1.chg hc3 (J0__0_0).symm
  replace hB := hB.inS hc3 (inMem (fun x hx => (List.mem_append_left _ hx)))
  replace hZ := Nat.le_trans hZ hc3.size
  replace F3 : Cl w4 b0 79 [.slice A0_0 (l0_0).length cap0_0, .int .i64 (wr (q0_1 + 1)), .int .u64 (q0_2)] := F3
  clear F2
  refine wS_end (by rfl) ?_
  refine eX_then ?_
  refine cW_seq ?_
  refine cW_region ?_
  refine wS_pure 4 [(35, .pointer (some ⟨b0, 2, none⟩)), (34, .pointer (some ⟨b0, 0, none⟩)), (33, .pointer (some ⟨b0, 0, none⟩)), (32, .pointer (some ⟨b0, 0, none⟩))] (by kernel_rfl) ?_
  refine wS_load1 (d := 36) (T := 77) (ad := ⟨b0, 2, none⟩) (v := .int .u64 (q0_2)) (by kernel_rfl) vt77 ((F3).cell 2) ?_
  refine wS_pure 7 [(43, .pointer (some ⟨b0, 2, none⟩)), (42, .pointer (some ⟨b0, 0, none⟩)), (41, .int .u64 (wu ((wu ((wu (q0_2 * 6364136223846793005)) + (wu x1))) + 1442695040888963407))), (40, .int .u64 (wu ((wu (q0_2 * 6364136223846793005)) + (wu x1)))), (39, .int .u64 (wu x1)), (38, .int .i64 (x1)), (37, .int .u64 (wu (q0_2 * 6364136223846793005)))] (by kernel_rfl) ?_
  refine wS_store (T := 77) (g := b0) (o := 2) (ad := ⟨b0, 2, none⟩) (v := .int .u64 (wu ((wu ((wu (q0_2 * 6364136223846793005)) + (wu x1))) + 1442695040888963407))) (vs := [.int .u64 (wu ((wu ((wu (q0_2 * 6364136223846793005)) + (wu x1))) + 1442695040888963407))]) (by kernel_rfl) (by rfl) sz77 (by rfl) (by rfl) F3 (by simp only [List.length_cons, List.length_nil]; omega) ?_
  intro w5 F4 hc4
  replace F1 := F1.chg hc4 (J0__0_0).symm
  replace hB := hB.inS hc4 (inMem (fun x hx => (List.mem_append_left _ hx)))
  replace hZ := Nat.le_trans hZ hc4.size
  replace F4 : Cl w5 b0 79 [.slice A0_0 (l0_0).length cap0_0, .int .i64 (wr (q0_1 + 1)), .int .u64 (wu ((wu ((wu (q0_2 * 6364136223846793005)) + (wu x1))) + 1442695040888963407))] := F4
  clear F3
  refine wS_end (by rfl) ?_
  refine eX_then ?_
  refine cW_seq ?_
  refine cW_seq ?_
  refine cW_drawnTail [] 9 (by kernel_rfl) (by kernel_rfl) (fun w6 hc5 => ?_)
  replace F1 := F1.chg hc5 Dj.nil
  replace F4 := F4.chg hc5 notNil
  replace hB := hB.inS hc5 inNil
  replace hZ := Nat.le_trans hZ hc5.size
  have hS := Chg.refl [] w6
  have Z5 := F1
  have Z6 := F4
  refine wH_take [0, 1, 2] [2, 1, 0] [(46, .pointer (some ⟨b0, 1, none⟩)), (45, .pointer (some ⟨b0, 0, none⟩)), (44, .pointer (some ⟨b0, 0, none⟩))] (by kernel_rfl) (qT (qT (qT qZ))) (by kernel_rfl) ?_
  refine wH_load1 (i := 3) (d := 47) (T := 3) (ad := ⟨b0, 1, none⟩) (v := .int .i64 (wr (q0_1 + 1))) (by kernel_rfl) (qT (qT (qT qZ))) (by kernel_rfl) (by kernel_rfl) vt3 (fun W hW => (Z6.chg hW notNil).cell 1) ?_
  refine wH_take [4, 5, 6] [6, 5, 4, 3, 2, 1, 0] [(50, .pointer (some ⟨b0, 0, none⟩)), (49, .pointer (some ⟨b0, 0, none⟩)), (48, .pointer (some ⟨b0, 0, none⟩))] (by kernel_rfl) (qT (qT (qT qZ))) (by kernel_rfl) ?_
  refine wH_load1 (i := 7) (d := 51) (T := 22) (ad := ⟨b0, 0, none⟩) (v := .slice A0_0 (l0_0).length cap0_0) (by kernel_rfl) (qT (qT (qT qZ))) (by kernel_rfl) (by kernel_rfl) vt22 (fun W hW => (Z6.chg hW notNil).cell 0) ?_
  refine wH_take [8] [8, 7, 6, 5, 4, 3, 2, 1, 0] [(52, .int .i64 (((l0_0).length : Int)))] (by kernel_rfl) (qT (qT (qT qZ))) (by kernel_rfl) ?_
  refine wH_done (by kernel_rfl) ?_
  refine eX_tail ?_
  refine wS_pure 1 [(53, .bool (decide ((wr (q0_1 + 1)) ≤ (((l0_0).length : Int)))))] (by kernel_rfl) ?_
  refine wS_end (by rfl) ?_
  refine eX_then ?_
  refine cW_prune [(0, .pointer (some ⟨b0, 0, none⟩)), (3, .int .i64 (x1)), (53, .bool (decide ((wr (q0_1 + 1)) ≤ (((l0_0).length : Int)))))] (by kernel_rfl) (by kernel_rfl) (fun a1 => ?_)
  refine cW_cond (t := decide ((wr (q0_1 + 1)) ≤ (((l0_0).length : Int)))) (by kernel_rfl) (fun hb2 => ?_) (fun hb2 => ?_)
  ·have hm := condT hb2 hm
   refine cW_seq ?_
   refine cW_region ?_
   refine wS_pure 2 [(2, .int .i64 (x1)), (54, .int .i64 (x1))] (by kernel_rfl) ?_
   refine wS_end (by rfl) ?_
   refine eX_then ?_
   refine cW_ret ?_
   refine eX_then_ret ?_
   have hq : (some ((x1, wr (q0_1 + 1), wu ((wu ((wu (q0_2 * 6364136223846793005)) + (wu x1))) + 1442695040888963407))) : Option ((Int) × (Int) × (Int))) = some _ := hm
   replace hq := someE hq
   subst hq
   refine eX_ret (vs := [.int .i64 (x1)]) [.tmp 2] (by rfl) ⟨by (show lkE _ _ _ = _); kernel_rfl, trivial⟩ ?_
   exact ⟨rfl, F4, hB⟩
  ·have hm := condF hb2 hm
   refine cW_skip ?_
   refine eX_then ?_
   refine cW_seq ?_
   refine cW_region ?_
   refine wS_pure 3 [(57, .pointer (some ⟨b0, 2, none⟩)), (56, .pointer (some ⟨b0, 0, none⟩)), (55, .pointer (some ⟨b0, 0, none⟩))] (by kernel_rfl) ?_
   refine wS_load1 (d := 58) (T := 77) (ad := ⟨b0, 2, none⟩) (v := .int .u64 (wu ((wu ((wu (q0_2 * 6364136223846793005)) + (wu x1))) + 1442695040888963407))) (by kernel_rfl) vt77 ((F4).cell 2) ?_
   refine wS_pure 4 [(2, .int .i64 (wr (andU (shrU (wu ((wu ((wu (q0_2 * 6364136223846793005)) + (wu x1))) + 1442695040888963407)) 40) 255))), (61, .int .i64 (wr (andU (shrU (wu ((wu ((wu (q0_2 * 6364136223846793005)) + (wu x1))) + 1442695040888963407)) 40) 255))), (60, .int .u64 (andU (shrU (wu ((wu ((wu (q0_2 * 6364136223846793005)) + (wu x1))) + 1442695040888963407)) 40) 255)), (59, .int .u64 (shrU (wu ((wu ((wu (q0_2 * 6364136223846793005)) + (wu x1))) + 1442695040888963407)) 40))] (by kernel_rfl) ?_
   refine wS_end (by rfl) ?_
   refine eX_then ?_
   refine cW_ret ?_
   have hq : (some ((wr (andU (shrU (wu ((wu ((wu (q0_2 * 6364136223846793005)) + (wu x1))) + 1442695040888963407)) 40) 255), wr (q0_1 + 1), wu ((wu ((wu (q0_2 * 6364136223846793005)) + (wu x1))) + 1442695040888963407))) : Option ((Int) × (Int) × (Int))) = some _ := hm
   replace hq := someE hq
   subst hq
   refine eX_ret (vs := [.int .i64 (wr (andU (shrU (wu ((wu ((wu (q0_2 * 6364136223846793005)) + (wu x1))) + 1442695040888963407)) 40) 255))]) [.tmp 2] (by rfl) ⟨by (show lkE _ _ _ = _); kernel_rfl, trivial⟩ ?_
   exact ⟨rfl, F4, hB⟩

set_option maxRecDepth 100000 in
/-- spec.l00Src).pick -/
theorem c_spec_l00Src_pick_bspecl00Src {w0 : World} {l0_0 : List (Int)} {A0_0 : Option Addr} {cap0_0 : Nat} {fp0_0 : List Nat} {q0_1 : Int} {q0_2 : Int} {b0 : Nat} {p1 : Int} {r : (Int) × (Int) × (Int)} (hm : m_spec_l00Src_pick_bspecl00Src l0_0 q0_1 q0_2 p1 = some r) (F0_0 : Sl 1 encU w0 fp0_0 A0_0 l0_0) (F0 : Cl w0 b0 79 [.slice A0_0 (l0_0).length cap0_0, .int .i64 (q0_1), .int .u64 (q0_2)]) (J0__0_0 : Dj [b0] fp0_0) :
  Calls Try.prog 22 #[.pointer (some ⟨b0, 0, none⟩), .int .i64 (p1)] w0 fun e w' => e = .returned (.int .i64 (r.1)) ∧ Cl w' b0 79 [.slice A0_0 (l0_0).length cap0_0, .int .i64 (r.2.1), .int .u64 (r.2.2)] ∧ Chg ([b0] ++ []) w0 w' := by
 have L0_0 := F0_0.low
 have L0 := lt1 F0.lt
 have hB : Chg ([b0] ++ []) w0 w0 := Chg.refl _ _
 have hZ := Nat.le_refl w0.heap.size
 unfold m_spec_l00Src_pick_bspecl00Src at hm
 refine enterE (N := 20) Try.func22 (by rfl) Try.ntmps22 (by simp) [(0, .pointer (some ⟨b0, 0, none⟩)), (1, .int .i64 (p1))] (by rfl) (by kernel_rfl) (fun a => ?_)
 refine cW_seq ?_
 refine cW_region ?_
 refine wS_pure 1 [(4, .int .i64 (0))] (by kernel_rfl) ?_
 refine wS_end (by rfl) ?_
 refine eX_then ?_
 refine cW_seq ?_
 refine cW_seq ?_
 refine cW_region ?_
 refine wS_pure 2 [(7, .bool (decide (p1 ≤ 1))), (6, .int .i64 (p1))] (by kernel_rfl) ?_
 refine wS_end (by rfl) ?_
 refine eX_then ?_
 refine cW_cond (t := decide (p1 ≤ 1)) (by kernel_rfl) (fun hb1 => ?_) (fun hb1 => ?_)
 ·have hm := condT hb1 hm
  refine cW_seq ?_
  refine cW_region ?_
  refine wS_pure 1 [(4, .int .i64 (0))] (by kernel_rfl) ?_
  refine wS_end (by rfl) ?_
  refine eX_then ?_
  refine cW_ret ?_
  refine eX_then_ret ?_
  have hq : (some ((0, q0_1, q0_2)) : Option ((Int) × (Int) × (Int))) = some _ := hm
  replace hq := someE hq
  subst hq
  refine eX_ret (vs := [.int .i64 (0)]) [.tmp 4] (by rfl) ⟨by (show lkE _ _ _ = _); kernel_rfl, trivial⟩ ?_
  exact ⟨rfl, F0, hB⟩
 ·have hm := condF hb1 hm
  refine cW_skip ?_
  refine eX_then ?_
  refine cW_seq ?_
  refine cW_region ?_
  refine wS_pure 1 [(8, .pointer (some ⟨b0, 0, none⟩))] (by kernel_rfl) ?_
  obtain ⟨y1, hy1, hm⟩ := bindE hm
  refine wS_calls (d := 9) (f := 39) (vs := [.pointer (some ⟨b0, 0, none⟩)]) (by kernel_rfl) ent39 (c_spec_l00Src_next_bspecl00Src hy1 F0_0 F0 J0__0_0) ?_
  rintro _ w1 ⟨rfl, F1, hc1⟩
  replace F0_0 := F0_0.chg hc1 (Dj.app (J0__0_0).symm Dj.nil)
  replace hB := hB.inS hc1 (inApp (inMem (fun x hx => (List.mem_append_left _ hx))) inNil)
  replace hZ := Nat.le_trans hZ hc1.size
  clear F0
  refine ⟨.int .i64 (y1.1), rfl, ?_⟩
  refine wS_pure 1 [(5, .int .i64 (y1.1))] (by kernel_rfl) ?_
  refine wS_end (by rfl) ?_
  refine eX_then ?_
  refine cW_seq ?_
  obtain ⟨s1, hs1, hm⟩ := bindE hm
  refine cW_cut (fun a' w' => ∃ x1 : Int, ∃ x2 : Int, ∃ x3 : Int, (x1, x2, x3) = s1 ∧ Fr 20 [(1, .int .i64 (p1)), (5, .int .i64 (x1))] a' ∧ Sl 1 encU w' fp0_0 A0_0 l0_0 ∧ Cl w' b0 79 [.slice A0_0 (l0_0).length cap0_0, .int .i64 (x2), .int .u64 (x3)] ∧ Chg ([b0] ++ []) w0 w' ∧ w0.heap.size ≤ w'.heap.size) ?_ ?_
  ·have hm := hs1
   refine cW_seq ?_
   refine cW_region ?_
   refine wS_pure 2 [(11, .bool (decide (p1 > 200))), (10, .int .i64 (p1))] (by kernel_rfl) ?_
   refine wS_end (by rfl) ?_
   refine eX_then ?_
   refine cW_cond (t := decide (p1 > 200)) (by kernel_rfl) (fun hb2 => ?_) (fun hb2 => ?_)
   ·have hm := condT hb2 hm
    refine cW_region ?_
    refine wS_pure 3 [(14, .pointer (some ⟨b0, 0, none⟩)), (13, .int .i64 (wr (y1.1 * 256))), (12, .int .i64 (y1.1))] (by kernel_rfl) ?_
    obtain ⟨y2, hy2, hm⟩ := bindE hm
    refine wS_calls (d := 15) (f := 39) (vs := [.pointer (some ⟨b0, 0, none⟩)]) (by kernel_rfl) ent39 (c_spec_l00Src_next_bspecl00Src hy2 F0_0 F1 J0__0_0) ?_
    rintro _ w2 ⟨rfl, F2, hc2⟩
    replace F0_0 := F0_0.chg hc2 (Dj.app (J0__0_0).symm Dj.nil)
    replace hB := hB.inS hc2 (inApp (inMem (fun x hx => (List.mem_append_left _ hx))) inNil)
    replace hZ := Nat.le_trans hZ hc2.size
    clear F1
    refine ⟨.int .i64 (y2.1), rfl, ?_⟩
    refine wS_pure 2 [(5, .int .i64 (wr ((wr (y1.1 * 256)) + y2.1))), (16, .int .i64 (wr ((wr (y1.1 * 256)) + y2.1)))] (by kernel_rfl) ?_
    refine wS_end (by rfl) ?_
    have hq : (some ((wr ((wr (y1.1 * 256)) + y2.1), y2.2.1, y2.2.2)) : Option (Int × Int × Int)) = some _ := hm
    replace hq := someE hq
    subst hq
    exact eX_J (fun hst => ⟨wr ((wr (y1.1 * 256)) + y2.1), y2.2.1, y2.2.2, rfl, Fr.of hst (by kernel_rfl), F0_0, F2, hB, hZ⟩)
   ·have hm := condF hb2 hm
    refine cW_skip ?_
    have hq : (some ((y1.1, y1.2.1, y1.2.2)) : Option (Int × Int × Int)) = some _ := hm
    replace hq := someE hq
    subst hq
    exact eX_J (fun hst => ⟨y1.1, y1.2.1, y1.2.2, rfl, Fr.of hst (by kernel_rfl), F0_0, F1, hB, hZ⟩)
  ·rintro a' w3 ⟨x1, x2, x3, hJ, hF1, F3, F4, hB, hZ⟩
   subst hJ
   refine Fr.goX hF1 (by kernel_rfl) ?_
   refine eX_then ?_
   refine cW_seq ?_
   refine cW_region ?_
   refine wS_pure 2 [(18, .int .i64 (p1)), (17, .int .i64 (x1))] (by kernel_rfl) ?_
   obtain ⟨u1, hu1, hm⟩ := bindE hm
   refine wS_rem (d := 19) (x := x1) (y := p1) (by kernel_rfl) (nzE hu1) ?_
   refine wS_pure 1 [(4, .int .i64 (Int.tmod x1 p1))] (by kernel_rfl) ?_
   refine wS_end (by rfl) ?_
   refine eX_then ?_
   refine cW_ret ?_
   have hq : (some ((Int.tmod x1 p1, x2, x3)) : Option ((Int) × (Int) × (Int))) = some _ := hm
   replace hq := someE hq
   subst hq
   refine eX_ret (vs := [.int .i64 (Int.tmod x1 p1)]) [.tmp 4] (by rfl) ⟨by (show lkE _ _ _ = _); kernel_rfl, trivial⟩ ?_
   exact ⟨rfl, F4, hB⟩

set_option maxRecDepth 100000 in
/-- spec.R8Pins -/
theorem c_spec_R8Pins {w0 : World} {l0 : List (Int)} {A0 : Option Addr} {cap0 : Nat} {fp0 : List Nat} {p1 : Int} {r : (List (Int × Int))} (hm : m_spec_R8Pins l0 p1 = some r) (F0 : Sl 1 encU w0 fp0 A0 l0) :
  Calls Try.prog 6 #[.slice A0 (l0).length cap0, .int .i64 (p1)] w0 fun e w' => ∃ A100 cap100 fp100, e = .returned (.slice A100 (r).length cap100) ∧ Ow 2 encII 49 w' fp100 A100 cap100 r ∧ (∀ x ∈ fp100, w0.heap.size ≤ x) ∧ Chg [] w0 w' := by
 have L0 := F0.low
 have hB : Chg [] w0 w0 := Chg.refl _ _
 have hZ := Nat.le_refl w0.heap.size
 unfold m_spec_R8Pins at hm
 refine enterE (N := 32) Try.func6 (by rfl) Try.ntmps6 (by simp) [(0, .slice A0 (l0).length cap0), (1, .int .i64 (p1))] (by rfl) (by kernel_rfl) (fun a => ?_)
 refine cW_seq ?_
 refine cW_region ?_
 refine wS_pure 1 [(4, .slice none 0 0)] (by kernel_rfl) ?_
 refine wS_end (by rfl) ?_
 refine eX_then ?_
 refine cW_seq ?_
 refine cW_region ?_
 refine wS_pure 1 [(9, .slice A0 (l0).length cap0)] (by kernel_rfl) ?_
 obtain ⟨y1, hy1, hm⟩ := bindE hm
 refine wS_calls (d := 10) (f := 21) (vs := [.slice A0 (l0).length cap0]) (by kernel_rfl) ent21 (c_spec_l00From hy1 F0) ?_
 rintro _ w1 ⟨b1, rfl, F1, G1, hc1⟩
 replace F0 := F0.chg hc1 Dj.nil
 replace hB := hB.inS hc1 inNil
 replace G1 := Nat.le_trans hZ G1
 replace hZ := Nat.le_trans hZ hc1.size
 refine ⟨.pointer (some ⟨b1, 0, none⟩), rfl, ?_⟩
 refine wS_pure 1 [(5, .pointer (some ⟨b1, 0, none⟩))] (by kernel_rfl) ?_
 refine wS_end (by rfl) ?_
 refine eX_then ?_
 refine cW_seq ?_
 refine cW_region ?_
 refine wS_bs0 (α := Int × Int) (enc := encII) (d := 11) (t := 24) (T := 49) (by kernel_rfl) el24 ?_
 intro b2 w2 G2 F2 hc2
 have D1 : Dj [b1] [b2] := Dj.of (lt1 F1.lt) (low1 G2)
 replace F0 := F0.chg hc2 Dj.nil
 replace F1 := F1.chg hc2 notNil
 replace hB := hB.inS hc2 inNil
 replace G2 := Nat.le_trans hZ G2
 replace G2 := low1 G2
 replace hZ := Nat.le_trans hZ hc2.size
 refine wS_pure 1 [(6, .slice (some ⟨b2, 0, none⟩) (([] : List (Int × Int))).length 0)] (by kernel_rfl) ?_
 refine wS_end (by rfl) ?_
 refine eX_then ?_
 refine cW_seq ?_
 refine cW_seq ?_
 refine cW_region ?_
 refine wS_pure 3 [(14, .int .i64 (wr (p1 - 1))), (13, .int .i64 (p1)), (12, .pointer (some ⟨b1, 0, none⟩))] (by kernel_rfl) ?_
 obtain ⟨y2, hy2, hm⟩ := bindE hm
 refine wS_calls (d := 15) (f := 22) (vs := [.pointer (some ⟨b1, 0, none⟩), .int .i64 (wr (p1 - 1))]) (by kernel_rfl) ent22 (c_spec_l00Src_pick_bspecl00Src hy2 F0 F1 (Dj.of L0 (low1 G1)).symm) ?_
 rintro _ w3 ⟨rfl, F3, hc3⟩
 replace F0 := F0.chg hc3 (Dj.app (Dj.of L0 (low1 G1)) Dj.nil)
 replace F2 := F2.chg hc3 (Dj.app (D1).symm Dj.nil)
 replace hB := hB.inS hc3 (inApp (inLow (low1 G1)) inNil)
 replace hZ := Nat.le_trans hZ hc3.size
 clear F1
 refine ⟨.int .i64 (y2.1), rfl, ?_⟩
 refine wS_pure 2 [(7, .int .i64 (wr (2 + y2.1))), (16, .int .i64 (wr (2 + y2.1)))] (by kernel_rfl) ?_
 refine wS_end (by rfl) ?_
 refine eX_then ?_
 obtain ⟨r1, hr1, hm⟩ := bindE hm
 have hm1 := hm
 refine cW_cut (fun a' w' => ∃ l1 : List (Int × Int), ∃ A1 : Option Addr, ∃ cap1 : Nat, ∃ fp1 : List Nat, l1 = r1 ∧ Fr 32 [(6, .slice A1 (l1).length cap1)] a' ∧ Ow 2 encII 49 w' fp1 A1 cap1 l1 ∧ (∀ x ∈ fp1, w0.heap.size ≤ x) ∧ Chg [] w0 w' ∧ w0.heap.size ≤ w'.heap.size) ?_ ?_
 ·refine cW_block ?_
  refine cW_loop _ (fun (s1 : (List (Int × Int)) × Int × Int × Int) a' w' => ∃ l3 : List (Int × Int), ∃ A3 : Option Addr, ∃ cap3 : Nat, ∃ fp2 : List Nat, ∃ x1 : Int, ∃ x2 : Int, ∃ x3 : Int, (l3, x1, x2, x3) = s1 ∧ Fr 32 [(5, .pointer (some ⟨b1, 0, none⟩)), (6, .slice A3 (l3).length cap3), (7, .int .i64 (x1))] a' ∧ Sl 1 encU w' fp0 A0 l0 ∧ Cl w' b1 79 [.slice A0 (l0).length cap0, .int .i64 (x2), .int .u64 (x3)] ∧ Ow 2 encII 49 w' fp2 A3 cap3 l3 ∧ (∀ x ∈ fp2, w0.heap.size ≤ x) ∧ Dj [b1] fp2 ∧ Chg [] w0 w' ∧ w0.heap.size ≤ w'.heap.size) hr1 (fun hst => ⟨([] : List (Int × Int)), (some ⟨b2, 0, none⟩), 0, [b2], wr (2 + y2.1), y2.2.1, y2.2.2, rfl, Fr.of hst (by kernel_rfl), F0, F3, F2, G2, D1, hB, hZ⟩) ?_
  rintro _ c1 a' w4 ⟨l3, A3, cap3, fp2, x1, x2, x3, rfl, hF1, F4, F5, F6, G3, D2, hB, hZ⟩ hx1
  refine Fr.goOn hF1 (by kernel_rfl) ?_
  have hm := hx1
  unfold m_spec_R8Pins_s1 at hm
  refine cW_seq ?_
  refine cW_seq ?_
  refine cW_region ?_
  refine wS_pure 2 [(18, .bool (decide (x1 > 0))), (17, .int .i64 (x1))] (by kernel_rfl) ?_
  refine wS_end (by rfl) ?_
  refine eX_then ?_
  refine cW_cond (t := decide (x1 > 0)) (by kernel_rfl) (fun hb1 => ?_) (fun hb1 => ?_)
  ·have hm := condT hb1 hm
   refine cW_skip ?_
   refine eX_then ?_
   refine cW_seq ?_
   refine cW_block ?_
   refine cW_seq ?_
   refine cW_region ?_
   refine wS_pure 1 [(21, .pointer (some ⟨b1, 0, none⟩))] (by kernel_rfl) ?_
   obtain ⟨y3, hy3, hm⟩ := bindE hm
   refine wS_calls (d := 22) (f := 22) (vs := [.pointer (some ⟨b1, 0, none⟩), .int .i64 (12)]) (by kernel_rfl) ent22 (c_spec_l00Src_pick_bspecl00Src hy3 F4 F5 (Dj.of L0 (low1 G1)).symm) ?_
   rintro _ w5 ⟨rfl, F7, hc4⟩
   replace F4 := F4.chg hc4 (Dj.app (Dj.of L0 (low1 G1)) Dj.nil)
   replace F6 := F6.chg hc4 (Dj.app (D2).symm Dj.nil)
   replace hB := hB.inS hc4 (inApp (inLow (low1 G1)) inNil)
   replace hZ := Nat.le_trans hZ hc4.size
   clear F5
   refine ⟨.int .i64 (y3.1), rfl, ?_⟩
   refine wS_pure 1 [(23, .agg #[.int .i64 (y3.1), .int .i64 (0)])] (by kernel_rfl) ?_
   refine wS_alloc (d := 8) (T := 49) (z := .agg #[.int .i64 (0), .int .i64 (0)]) (by kernel_rfl) (by kernel_rfl) ?_
   intro b3 w6 G4 F8 hc5
   replace F8 : Cl w6 b3 49 [.int .i64 (0), .int .i64 (0)] := F8
   have D3 : Dj [b1] [b3] := Dj.of (lt1 F7.lt) (low1 G4)
   have D4 : Dj fp2 [b3] := Dj.of F6.low (low1 G4)
   replace F4 := F4.chg hc5 Dj.nil
   replace F7 := F7.chg hc5 notNil
   replace F6 := F6.chg hc5 Dj.nil
   replace hB := hB.inS hc5 inNil
   replace G4 := Nat.le_trans hZ G4
   replace hZ := Nat.le_trans hZ hc5.size
   refine wS_store (T := 49) (g := b3) (o := 0) (ad := ⟨b3, 0, none⟩) (v := .agg #[.int .i64 (y3.1), .int .i64 (0)]) (vs := [.int .i64 (y3.1), .int .i64 (0)]) (by kernel_rfl) (by rfl) sz49 (by rfl) (by rfl) F8 (by simp only [List.length_cons, List.length_nil]; omega) ?_
   intro w7 F9 hc6
   replace F4 := F4.chg hc6 (Dj.of L0 (low1 G4))
   replace F7 := F7.chg hc6 (dj1 D3)
   replace F6 := F6.chg hc6 D4
   replace hB := hB.inS hc6 (inLow (low1 G4))
   replace hZ := Nat.le_trans hZ hc6.size
   replace F9 : Cl w7 b3 49 [.int .i64 (y3.1), .int .i64 (0)] := F9
   clear F8
   refine wS_end (by rfl) ?_
   refine eX_then ?_
   refine cW_seq ?_
   refine cW_region ?_
   refine wS_pure 1 [(24, .pointer (some ⟨b1, 0, none⟩))] (by kernel_rfl) ?_
   obtain ⟨y4, hy4, hm⟩ := bindE hm
   refine wS_calls (d := 25) (f := 22) (vs := [.pointer (some ⟨b1, 0, none⟩), .int .i64 (12)]) (by kernel_rfl) ent22 (c_spec_l00Src_pick_bspecl00Src hy4 F4 F7 (Dj.of L0 (low1 G1)).symm) ?_
   rintro _ w8 ⟨rfl, F10, hc7⟩
   replace F4 := F4.chg hc7 (Dj.app (Dj.of L0 (low1 G1)) Dj.nil)
   replace F6 := F6.chg hc7 (Dj.app (D2).symm Dj.nil)
   replace F9 := F9.chg hc7 (dj1 (Dj.app (D3).symm Dj.nil))
   replace hB := hB.inS hc7 (inApp (inLow (low1 G1)) inNil)
   replace hZ := Nat.le_trans hZ hc7.size
   clear F7
   refine ⟨.int .i64 (y4.1), rfl, ?_⟩
   refine wS_pure 1 [(26, .pointer (some ⟨b3, 1, none⟩))] (by kernel_rfl) ?_
   refine wS_store (T := 2) (g := b3) (o := 1) (ad := ⟨b3, 1, none⟩) (v := .int .i64 (y4.1)) (vs := [.int .i64 (y4.1)]) (by kernel_rfl) (by rfl) sz2 (by rfl) (by rfl) F9 (by simp only [List.length_cons, List.length_nil]; omega) ?_
   intro w9 F11 hc8
   replace F4 := F4.chg hc8 (Dj.of L0 (low1 G4))
   replace F10 := F10.chg hc8 (dj1 D3)
   replace F6 := F6.chg hc8 D4
   replace hB := hB.inS hc8 (inLow (low1 G4))
   replace hZ := Nat.le_trans hZ hc8.size
   replace F11 : Cl w9 b3 49 [.int .i64 (y3.1), .int .i64 (y4.1)] := F11
   clear F9
   refine wS_end (by rfl) ?_
   refine eX_then ?_
   refine cW_region ?_
   refine wS_pure 1 [(27, .slice A3 (l3).length cap3)] (by kernel_rfl) ?_
   refine wS_loadA (d := 28) (T := 49) (ad := ⟨b3, 0, none⟩) (vs := [.int .i64 (y3.1), .int .i64 (y4.1)]) (by kernel_rfl) vt49 (fun i u hu => box_cells F11 0 hu (by rfl)) ?_
   refine wS_bs (enc := encII) ([(y3.1, y4.1)] : List (Int × Int)) [.int .i64 (y3.1), .int .i64 (y4.1)] (d := 29) (t := 24) (T := 49) (n := 1) (ps := [(0, .agg #[.int .i64 (y3.1), .int .i64 (y4.1)])]) (by kernel_rfl) el24 encII_ok (by rfl) (by omega) (by omega) (by kernel_rfl) (by rfl) ?_
   intro b4 w10 G5 F12 hc9
   have D5 : Dj [b1] [b4] := Dj.of (lt1 F10.lt) (low1 G5)
   have D6 : Dj fp2 [b4] := Dj.of F6.low (low1 G5)
   have D7 : Dj [b3] [b4] := Dj.of (lt1 F11.lt) (low1 G5)
   replace F4 := F4.chg hc9 Dj.nil
   replace F10 := F10.chg hc9 notNil
   replace F6 := F6.chg hc9 Dj.nil
   replace F11 := F11.chg hc9 notNil
   replace hB := hB.inS hc9 inNil
   replace G5 := Nat.le_trans hZ G5
   replace G5 := low1 G5
   replace hZ := Nat.le_trans hZ hc9.size
   obtain ⟨_, hk1, hm⟩ := bindE hm
   replace hk1 := apE hk1
   refine wS_append (enc := encII) (l := (l3 : List (Int × Int))) (l2 := (([(y3.1, y4.1)] : List (Int × Int)) : List (Int × Int))) (d := 30) (t := 24) (T := 49) (A := A3) (A2 := (some ⟨b4, 0, none⟩)) (cap := cap3) (cap2 := 1) (by kernel_rfl) el24 encII_ok F6 (F12.sl encII_ok) (by rfl) hk1 ?_
   intro w11 fp3 A4 cap4 F13 hc10 hp1
   have G6 := low_ap G3 hZ hp1
   have D8 : Dj [b1] fp3 := Dj.ap D2 (lt1 F10.lt) hp1
   have D9 : Dj [b3] fp3 := Dj.ap (D4).symm (lt1 F11.lt) hp1
   have D10 : Dj [b4] fp3 := Dj.ap (D6).symm F12.low hp1
   replace F4 := F4.chg hc10 (Dj.of L0 G3)
   replace F10 := F10.chg hc10 (dj1 D2)
   replace F11 := F11.chg hc10 (dj1 (D4).symm)
   replace F12 := F12.chg hc10 (D6).symm
   replace hB := hB.inS hc10 (inLow G3)
   replace hZ := Nat.le_trans hZ hc10.size
   refine wS_pure 1 [(6, .slice A4 (l3 ++ (([(y3.1, y4.1)] : List (Int × Int)))).length cap4)] (by kernel_rfl) ?_
   refine wS_end (by rfl) ?_
   refine eX_block ?_
   refine eX_then ?_
   refine cW_region ?_
   refine wS_pure 3 [(7, .int .i64 (wr (x1 - 1))), (20, .int .i64 (wr (x1 - 1))), (19, .int .i64 (x1))] (by kernel_rfl) ?_
   refine wS_end (by rfl) ?_
   have hq : (some (Ctl.next ((l3 ++ (([(y3.1, y4.1)] : List (Int × Int))), wr (x1 - 1), y4.2.1, y4.2.2))) : Option (Ctl ((List (Int × Int)) × Int × Int × Int) ((List (Int × Int))))) = some _ := hm
   replace hq := someE hq
   subst hq
   exact eX_next hx1 (fun hst => ⟨l3 ++ (([(y3.1, y4.1)] : List (Int × Int))), A4, cap4, fp3, wr (x1 - 1), y4.2.1, y4.2.2, rfl, Fr.of hst (by kernel_rfl), F4, F10, F13, G6, D8, hB, hZ⟩)
  ·have hm := condF hb1 hm
   refine cW_exit ?_
   refine eX_then_exit ?_
   have hq : (some (Ctl.out l3) : Option (Ctl ((List (Int × Int)) × Int × Int × Int) ((List (Int × Int))))) = some _ := hm
   replace hq := someE hq
   subst hq
   refine eX_outX hx1 (fun hr2 => ?_)
   replace hr2 := hr2.symm
   subst hr2
   refine eX_block_hit ?_
   exact eX_J (fun hst => ⟨l3, A3, cap3, fp2, rfl, Fr.of hst (by kernel_rfl), F6, G3, hB, hZ⟩)
 ·rintro a' w12 ⟨l1, A1, cap1, fp1, hJ, hF2, F14, G7, hB, hZ⟩
  subst hJ
  refine Fr.goX hF2 (by kernel_rfl) ?_
  refine eX_then ?_
  refine cW_seq ?_
  refine cW_region ?_
  refine wS_pure 2 [(4, .slice A1 (l1).length cap1), (31, .slice A1 (l1).length cap1)] (by kernel_rfl) ?_
  refine wS_end (by rfl) ?_
  refine eX_then ?_
  refine cW_ret ?_
  have hq : (some l1 : Option ((List (Int × Int)))) = some _ := hm
  replace hq := someE hq
  subst hq
  refine eX_ret (vs := [.slice A1 (l1).length cap1]) [.tmp 4] (by rfl) ⟨by (show lkE _ _ _ = _); kernel_rfl, trivial⟩ ?_
  exact ⟨A1, cap1, fp1, rfl, F14, G7, hB⟩

set_option maxRecDepth 100000 in
/-- impl.NearestJoins$1 -/
theorem c_impl_NearestJoins_1_bint_bint {w0 : World} {p0 : Int} {q1_0 : Int} {b1 : Nat} {q2_0 : Int} {b2 : Nat} {r : (Bool)} (hm : m_impl_NearestJoins_1_bint_bint p0 q1_0 q2_0 = some r) (F1 : Cl w0 b1 3 [.int .i64 (q1_0)]) (F2 : Cl w0 b2 3 [.int .i64 (q2_0)]) :
  Calls Try.prog 29 #[.int .i64 (p0), .pointer (some ⟨b1, 0, none⟩), .pointer (some ⟨b2, 0, none⟩)] w0 fun e w' => e = .returned (.bool (r)) ∧ Chg [] w0 w' := by
 have L1 := lt1 F1.lt
 have L2 := lt1 F2.lt
 have hB : Chg [] w0 w0 := Chg.refl _ _
 have hZ := Nat.le_refl w0.heap.size
 unfold m_impl_NearestJoins_1_bint_bint at hm
 refine enterE (N := 13) Try.func29 (by rfl) Try.ntmps29 (by simp) [(0, .int .i64 (p0)), (1, .pointer (some ⟨b1, 0, none⟩)), (2, .pointer (some ⟨b2, 0, none⟩))] (by rfl) (by kernel_rfl) (fun a => ?_)
 refine cW_seq ?_
 refine cW_region ?_
 refine wS_pure 1 [(4, .bool (false))] (by kernel_rfl) ?_
 refine wS_end (by rfl) ?_
 refine eX_then ?_
 refine cW_seq ?_
 refine cW_region ?_
 refine wS_pure 1 [(5, .int .i64 (p0))] (by kernel_rfl) ?_
 refine wS_load1 (d := 6) (T := 3) (ad := ⟨b1, 0, none⟩) (v := .int .i64 (q1_0)) (by kernel_rfl) vt3 ((F1).cell 0) ?_
 refine wS_pure 2 [(8, .bool (p0 == q1_0)), (7, .bool (p0 == q1_0))] (by kernel_rfl) ?_
 refine wS_bool (p0 == q1_0) (fun hb1 => ?_) (fun hb1 => ?_)
 ·have hm := condT hb1 hm
  rewrite [hb1]
  refine wS_pure 5 [(4, .bool (true)), (12, .bool (true)), (11, undef), (10, undef), (9, undef)] (by kernel_rfl) ?_
  refine wS_end (by rfl) ?_
  refine eX_then ?_
  refine cW_ret ?_
  have hq : (some true : Option ((Bool))) = some _ := hm
  replace hq := someE hq
  subst hq
  refine eX_ret (vs := [.bool (true)]) [.tmp 4] (by rfl) ⟨by (show lkE _ _ _ = _); kernel_rfl, trivial⟩ ?_
  exact ⟨rfl, hB⟩
 ·have hm := condF hb1 hm
  rewrite [hb1]
  refine wS_pure 1 [(9, .int .i64 (p0))] (by kernel_rfl) ?_
  refine wS_load1 (d := 10) (T := 3) (ad := ⟨b2, 0, none⟩) (v := .int .i64 (q2_0)) (by kernel_rfl) vt3 ((F2).cell 0) ?_
  refine wS_pure 3 [(4, .bool (p0 == q2_0)), (12, .bool (p0 == q2_0)), (11, .bool (p0 == q2_0))] (by kernel_rfl) ?_
  refine wS_end (by rfl) ?_
  refine eX_then ?_
  refine cW_ret ?_
  have hq : (some (p0 == q2_0) : Option ((Bool))) = some _ := hm
  replace hq := someE hq
  subst hq
  refine eX_ret (vs := [.bool (p0 == q2_0)]) [.tmp 4] (by rfl) ⟨by (show lkE _ _ _ = _); kernel_rfl, trivial⟩ ?_
  exact ⟨rfl, hB⟩

set_option maxRecDepth 100000 in
/-- slices.IndexFunc[[]int,int] -/
theorem c_slices_IndexFunc_int_int_impl_NearestJoins_1_bint_bint {w0 : World} {l0 : List (Int)} {A0 : Option Addr} {cap0 : Nat} {fp0 : List Nat} {q1_0_0 : Int} {b1_0 : Nat} {q1_1_0 : Int} {b1_1 : Nat} {r : (Int)} (hm : m_slices_IndexFunc_int_int_impl_NearestJoins_1_bint_bint l0 q1_0_0 q1_1_0 = some r) (F0 : Sl 1 encI w0 fp0 A0 l0) (F1_0 : Cl w0 b1_0 3 [.int .i64 (q1_0_0)]) (F1_1 : Cl w0 b1_1 3 [.int .i64 (q1_1_0)]) :
  Calls Try.prog 50 #[.slice A0 (l0).length cap0, .func (.func 29) #[] #[.pointer (some ⟨b1_0, 0, none⟩), .pointer (some ⟨b1_1, 0, none⟩)]] w0 fun e w' => e = .returned (.int .i64 (r)) ∧ Chg [] w0 w' := by
 have L0 := F0.low
 have L1_0 := lt1 F1_0.lt
 have L1_1 := lt1 F1_1.lt
 have hB : Chg [] w0 w0 := Chg.refl _ _
 have hZ := Nat.le_refl w0.heap.size
 unfold m_slices_IndexFunc_int_int_impl_NearestJoins_1_bint_bint at hm
 refine enterE (N := 19) Try.func50 (by rfl) Try.ntmps50 (by simp) [(0, .slice A0 (l0).length cap0), (1, .func (.func 29) #[] #[.pointer (some ⟨b1_0, 0, none⟩), .pointer (some ⟨b1_1, 0, none⟩)])] (by rfl) (by kernel_rfl) (fun a => ?_)
 refine cW_seq ?_
 refine cW_region ?_
 refine wS_pure 1 [(4, .int .i64 (0))] (by kernel_rfl) ?_
 refine wS_end (by rfl) ?_
 refine eX_then ?_
 refine cW_seq ?_
 refine cW_seq ?_
 refine cW_region ?_
 refine wS_pure 3 [(8, .int .i64 (0)), (7, .int .i64 (((l0).length : Int))), (6, .slice A0 (l0).length cap0)] (by kernel_rfl) ?_
 refine wS_end (by rfl) ?_
 refine eX_then ?_
 obtain ⟨r1, hr1, hm⟩ := bindE hm
 have hm1 := hm
 refine cW_cut (fun a' w' => Sum.inl (()) = r1 ∧ Fr 19 [] a' ∧ Chg [] w0 w' ∧ w0.heap.size ≤ w'.heap.size) ?_ ?_
 ·refine cW_block ?_
  refine cW_loop _ (fun (s1 : Int) a' w' => ∃ x1 : Int, x1 = s1 ∧ Fr 19 [(0, .slice A0 (l0).length cap0), (1, .func (.func 29) #[] #[.pointer (some ⟨b1_0, 0, none⟩), .pointer (some ⟨b1_1, 0, none⟩)]), (7, .int .i64 (((l0).length : Int))), (8, .int .i64 (x1))] a' ∧ Sl 1 encI w' fp0 A0 l0 ∧ Cl w' b1_0 3 [.int .i64 (q1_0_0)] ∧ Cl w' b1_1 3 [.int .i64 (q1_1_0)] ∧ Chg [] w0 w' ∧ w0.heap.size ≤ w'.heap.size) hr1 (fun hst => ⟨0, rfl, Fr.of hst (by kernel_rfl), F0, F1_0, F1_1, hB, hZ⟩) ?_
  rintro _ c1 a' w1 ⟨x1, rfl, hF1, F1, F2, F3, hB, hZ⟩ hx1
  refine Fr.goOn hF1 (by kernel_rfl) ?_
  have hm := hx1
  unfold m_slices_IndexFunc_int_int_impl_NearestJoins_1_bint_bint_s1 at hm
  refine cW_seq ?_
  refine cW_region ?_
  refine wS_pure 1 [(9, .bool (decide (x1 < (((l0).length : Int)))))] (by kernel_rfl) ?_
  refine wS_end (by rfl) ?_
  refine eX_then ?_
  refine cW_seq ?_
  refine cW_cond (t := decide (x1 < (((l0).length : Int)))) (by kernel_rfl) (fun hb1 => ?_) (fun hb1 => ?_)
  ·have hm := condT hb1 hm
   refine cW_skip ?_
   refine eX_then ?_
   refine cW_seq ?_
   refine cW_block ?_
   refine cW_seq ?_
   refine cW_region ?_
   refine wS_pure 2 [(5, .int .i64 (x1)), (10, .int .i64 (x1))] (by kernel_rfl) ?_
   refine wS_end (by rfl) ?_
   refine eX_then ?_
   refine cW_seq ?_
   refine cW_region ?_
   refine wS_pure 3 [(13, .int .i64 (x1)), (12, .slice A0 (l0).length cap0), (11, .func (.func 29) #[] #[.pointer (some ⟨b1_0, 0, none⟩), .pointer (some ⟨b1_1, 0, none⟩)])] (by kernel_rfl) ?_
   obtain ⟨x2, hx2, hm⟩ := bindE hm
   refine wS_idx (d := 14) (T := 60) (A := A0) (n := (l0).length) (cap := cap0) (kd := .i64) (m := x1) (by kernel_rfl) sl60 (F1.is hx2) ?_
   refine wS_load1 (d := 15) (T := 3) (ad := (elA A0 1 (x1) 0)) (v := .int .i64 (x2)) (by kernel_rfl) vt3 (Sl.cell F1 hx2 0 (by rfl)) ?_
   obtain ⟨y1, hy1, hm⟩ := bindE hm
   refine wS_calls (d := 16) (f := 29) (vs := [.int .i64 (x2), .pointer (some ⟨b1_0, 0, none⟩), .pointer (some ⟨b1_1, 0, none⟩)]) (by kernel_rfl) ent29 (c_impl_NearestJoins_1_bint_bint hy1 F2 F3) ?_
   rintro _ w2 ⟨rfl, hc1⟩
   replace F1 := F1.chg hc1 Dj.nil
   replace F2 := F2.chg hc1 notNil
   replace F3 := F3.chg hc1 notNil
   replace hB := hB.inS hc1 inNil
   replace hZ := Nat.le_trans hZ hc1.size
   refine ⟨.bool (y1), rfl, ?_⟩
   refine wS_end (by rfl) ?_
   refine eX_then ?_
   refine cW_cond (t := y1) (by kernel_rfl) (fun hb2 => ?_) (fun hb2 => ?_)
   ·have hm := condT hb2 hm
    refine cW_seq ?_
    refine cW_region ?_
    refine wS_pure 2 [(4, .int .i64 (x1)), (17, .int .i64 (x1))] (by kernel_rfl) ?_
    refine wS_end (by rfl) ?_
    refine eX_then ?_
    refine cW_ret ?_
    refine eX_block_ret ?_
    refine eX_then_ret ?_
    have hq : (some (Ctl.out (Sum.inr x1)) : Option (Ctl (Int) (Sum (Unit) ((Int))))) = some _ := hm
    replace hq := someE hq
    subst hq
    refine eX_outR hx1 (fun hr => ?_)
    subst hr
    refine eX_block_ret ?_
    refine eX_then_ret ?_
    refine eX_then_ret ?_
    have hq : (some x1 : Option ((Int))) = some _ := hm1
    replace hq := someE hq
    subst hq
    refine eX_ret (vs := [.int .i64 (x1)]) [.tmp 4] (by rfl) ⟨by (show lkE _ _ _ = _); kernel_rfl, trivial⟩ ?_
    exact ⟨rfl, hB⟩
   ·have hm := condF hb2 hm
    refine cW_skip ?_
    refine eX_block ?_
    refine eX_then ?_
    refine cW_region ?_
    refine wS_pure 2 [(8, .int .i64 (wr (x1 + 1))), (18, .int .i64 (wr (x1 + 1)))] (by kernel_rfl) ?_
    refine wS_end (by rfl) ?_
    have hq : (some (Ctl.next (wr (x1 + 1))) : Option (Ctl (Int) (Sum (Unit) ((Int))))) = some _ := hm
    replace hq := someE hq
    subst hq
    exact eX_next hx1 (fun hst => ⟨wr (x1 + 1), rfl, Fr.of hst (by kernel_rfl), F1, F2, F3, hB, hZ⟩)
  ·have hm := condF hb1 hm
   refine cW_exit ?_
   refine eX_then_exit ?_
   have hq : (some (Ctl.out (Sum.inl (()))) : Option (Ctl (Int) (Sum (Unit) ((Int))))) = some _ := hm
   replace hq := someE hq
   subst hq
   refine eX_outX hx1 (fun hr2 => ?_)
   replace hr2 := hr2.symm
   subst hr2
   refine eX_block_hit ?_
   exact eX_J (fun hst => ⟨rfl, Fr.of hst (by kernel_rfl), hB, hZ⟩)
 ·rintro a' w3 ⟨hJ, hF2, hB, hZ⟩
  subst hJ
  refine Fr.goX hF2 (by kernel_rfl) ?_
  refine eX_then ?_
  refine cW_seq ?_
  refine cW_region ?_
  refine wS_pure 1 [(4, .int .i64 ((-1)))] (by kernel_rfl) ?_
  refine wS_end (by rfl) ?_
  refine eX_then ?_
  refine cW_ret ?_
  have hq : (some ((-1)) : Option ((Int))) = some _ := hm
  replace hq := someE hq
  subst hq
  refine eX_ret (vs := [.int .i64 ((-1))]) [.tmp 4] (by rfl) ⟨by (show lkE _ _ _ = _); kernel_rfl, trivial⟩ ?_
  exact ⟨rfl, hB⟩

set_option maxRecDepth 100000 in
/-- slices.DeleteFunc[[]int,int] -/
theorem c_slices_DeleteFunc_int_int_impl_NearestJoins_1_bint_bint {w0 : World} {l0 : List (Int)} {A0 : Option Addr} {cap0 : Nat} {fp0 : List Nat} {q1_0_0 : Int} {b1_0 : Nat} {q1_1_0 : Int} {b1_1 : Nat} {r : (List (Int))} (hm : m_slices_DeleteFunc_int_int_impl_NearestJoins_1_bint_bint l0 q1_0_0 q1_1_0 = some r) (F0 : Ow 1 encI 3 w0 fp0 A0 cap0 l0) (K0 : (l0).length ≤ cap0) (F1_0 : Cl w0 b1_0 3 [.int .i64 (q1_0_0)]) (F1_1 : Cl w0 b1_1 3 [.int .i64 (q1_1_0)]) (J0__1_0 : Dj fp0 [b1_0]) (J0__1_1 : Dj fp0 [b1_1]) :
  Calls Try.prog 28 #[.slice A0 (l0).length cap0, .func (.func 29) #[] #[.pointer (some ⟨b1_0, 0, none⟩), .pointer (some ⟨b1_1, 0, none⟩)]] w0 fun e w' => e = .returned (.slice A0 (r).length cap0) ∧ Ow 1 encI 3 w' fp0 A0 cap0 r ∧ Chg (fp0 ++ []) w0 w' := by
 have L0 := F0.low
 have L1_0 := lt1 F1_0.lt
 have L1_1 := lt1 F1_1.lt
 have hB : Chg (fp0 ++ []) w0 w0 := Chg.refl _ _
 have hZ := Nat.le_refl w0.heap.size
 unfold m_slices_DeleteFunc_int_int_impl_NearestJoins_1_bint_bint at hm
 refine enterE (N := 42) Try.func28 (by rfl) Try.ntmps28 (by simp) [(0, .slice A0 (l0).length cap0), (1, .func (.func 29) #[] #[.pointer (some ⟨b1_0, 0, none⟩), .pointer (some ⟨b1_1, 0, none⟩)])] (by rfl) (by kernel_rfl) (fun a => ?_)
 refine cW_seq ?_
 refine cW_region ?_
 refine wS_pure 1 [(4, .slice none 0 0)] (by kernel_rfl) ?_
 refine wS_end (by rfl) ?_
 refine eX_then ?_
 refine cW_seq ?_
 refine cW_region ?_
 refine wS_pure 2 [(9, .func (.func 29) #[] #[.pointer (some ⟨b1_0, 0, none⟩), .pointer (some ⟨b1_1, 0, none⟩)]), (8, .slice A0 (l0).length cap0)] (by kernel_rfl) ?_
 obtain ⟨y1, hy1, hm⟩ := bindE hm
 refine wS_calls (d := 10) (f := 50) (vs := [.slice A0 (l0).length cap0, .func (.func 29) #[] #[.pointer (some ⟨b1_0, 0, none⟩), .pointer (some ⟨b1_1, 0, none⟩)]]) (by kernel_rfl) ent50 (c_slices_IndexFunc_int_int_impl_NearestJoins_1_bint_bint hy1 (F0.sl encI_ok) F1_0 F1_1) ?_
 rintro _ w1 ⟨rfl, hc1⟩
 replace F0 := F0.chg hc1 Dj.nil
 replace F1_0 := F1_0.chg hc1 notNil
 replace F1_1 := F1_1.chg hc1 notNil
 replace hB := hB.inS hc1 inNil
 replace hZ := Nat.le_trans hZ hc1.size
 refine ⟨.int .i64 (y1), rfl, ?_⟩
 refine wS_pure 1 [(5, .int .i64 (y1))] (by kernel_rfl) ?_
 refine wS_end (by rfl) ?_
 refine eX_then ?_
 refine cW_seq ?_
 refine cW_seq ?_
 refine cW_region ?_
 refine wS_pure 2 [(12, .bool (y1 == ((-1)))), (11, .int .i64 (y1))] (by kernel_rfl) ?_
 refine wS_end (by rfl) ?_
 refine eX_then ?_
 refine cW_cond (t := y1 == ((-1))) (by kernel_rfl) (fun hb1 => ?_) (fun hb1 => ?_)
 ·have hm := condT hb1 hm
  refine cW_seq ?_
  refine cW_region ?_
  refine wS_pure 2 [(4, .slice A0 (l0).length cap0), (13, .slice A0 (l0).length cap0)] (by kernel_rfl) ?_
  refine wS_end (by rfl) ?_
  refine eX_then ?_
  refine cW_ret ?_
  refine eX_then_ret ?_
  have hq : (some l0 : Option ((List (Int)))) = some _ := hm
  replace hq := someE hq
  subst hq
  refine eX_ret (vs := [.slice A0 (l0).length cap0]) [.tmp 4] (by rfl) ⟨by (show lkE _ _ _ = _); kernel_rfl, trivial⟩ ?_
  exact ⟨rfl, F0, hB⟩
 ·have hm := condF hb1 hm
  refine cW_skip ?_
  refine eX_then ?_
  refine cW_seq ?_
  refine cW_seq ?_
  refine cW_region ?_
  refine wS_pure 3 [(6, .int .i64 (wr (y1 + 1))), (15, .int .i64 (wr (y1 + 1))), (14, .int .i64 (y1))] (by kernel_rfl) ?_
  refine wS_end (by rfl) ?_
  refine eX_then ?_
  obtain ⟨r1, hr1, hm⟩ := bindE hm
  have hm1 := hm
  refine cW_cut (fun a' w' => ∃ x1 : Int, ∃ l1 : List (Int), (x1, l1) = r1 ∧ Fr 42 [(0, .slice A0 (l1).length cap0), (5, .int .i64 (x1))] a' ∧ Ow 1 encI 3 w' fp0 A0 cap0 l1 ∧ (l1).length = (l0).length ∧ Chg (fp0 ++ []) w0 w' ∧ w0.heap.size ≤ w'.heap.size) ?_ ?_
  ·refine cW_block ?_
   refine cW_loop _ (fun (s1 : Int × Int × (List (Int))) a' w' => ∃ x2 : Int, ∃ x3 : Int, ∃ l2 : List (Int), (x2, x3, l2) = s1 ∧ Fr 42 [(0, .slice A0 (l2).length cap0), (1, .func (.func 29) #[] #[.pointer (some ⟨b1_0, 0, none⟩), .pointer (some ⟨b1_1, 0, none⟩)]), (5, .int .i64 (x2)), (6, .int .i64 (x3))] a' ∧ Ow 1 encI 3 w' fp0 A0 cap0 l2 ∧ Cl w' b1_0 3 [.int .i64 (q1_0_0)] ∧ Cl w' b1_1 3 [.int .i64 (q1_1_0)] ∧ (l2).length = (l0).length ∧ Chg (fp0 ++ []) w0 w' ∧ w0.heap.size ≤ w'.heap.size) hr1 (fun hst => ⟨y1, wr (y1 + 1), l0, rfl, Fr.of hst (by kernel_rfl), F0, F1_0, F1_1, (Eq.refl (l0).length), hB, hZ⟩) ?_
   rintro _ c1 a' w2 ⟨x2, x3, l2, rfl, hF1, F1, F2, F3, hl1, hB, hZ⟩ hx1
   refine Fr.goOn hF1 (by kernel_rfl) ?_
   have hm := hx1
   unfold m_slices_DeleteFunc_int_int_impl_NearestJoins_1_bint_bint_s1 at hm
   refine cW_seq ?_
   refine cW_seq ?_
   refine cW_region ?_
   refine wS_pure 4 [(19, .bool (decide (x3 < (((l2).length : Int))))), (18, .int .i64 (((l2).length : Int))), (17, .slice A0 (l2).length cap0), (16, .int .i64 (x3))] (by kernel_rfl) ?_
   refine wS_end (by rfl) ?_
   refine eX_then ?_
   refine cW_cond (t := decide (x3 < (((l2).length : Int)))) (by kernel_rfl) (fun hb2 => ?_) (fun hb2 => ?_)
   ·have hm := condT hb2 hm
    refine cW_skip ?_
    refine eX_then ?_
    refine cW_seq ?_
    refine cW_block ?_
    obtain ⟨s2, hs1, hm⟩ := bindE hm
    refine cW_cut (fun a' w' => ∃ x4 : Int, ∃ l3 : List (Int), (x4, l3) = s2 ∧ Fr 42 [(0, .slice A0 (l3).length cap0), (1, .func (.func 29) #[] #[.pointer (some ⟨b1_0, 0, none⟩), .pointer (some ⟨b1_1, 0, none⟩)]), (5, .int .i64 (x4)), (6, .int .i64 (x3))] a' ∧ Ow 1 encI 3 w' fp0 A0 cap0 l3 ∧ Cl w' b1_0 3 [.int .i64 (q1_0_0)] ∧ Cl w' b1_1 3 [.int .i64 (q1_1_0)] ∧ (l3).length = (l0).length ∧ Chg (fp0 ++ []) w0 w' ∧ w0.heap.size ≤ w'.heap.size) ?_ ?_
    ·have hm := hs1
     refine cW_seq ?_
     refine cW_region ?_
     refine wS_pure 2 [(23, .int .i64 (x3)), (22, .slice A0 (l2).length cap0)] (by kernel_rfl) ?_
     obtain ⟨x5, hx2, hm⟩ := bindE hm
     refine wS_idx (d := 24) (T := 60) (A := A0) (n := (l2).length) (cap := cap0) (kd := .i64) (m := x3) (by kernel_rfl) sl60 ((F1.sl encI_ok).is hx2) ?_
     refine wS_load1 (d := 25) (T := 3) (ad := (elA A0 1 (x3) 0)) (v := .int .i64 (x5)) (by kernel_rfl) vt3 (Sl.cell (F1.sl encI_ok) hx2 0 (by rfl)) ?_
     refine wS_pure 1 [(7, .int .i64 (x5))] (by kernel_rfl) ?_
     refine wS_end (by rfl) ?_
     refine eX_then ?_
     refine cW_seq ?_
     refine cW_region ?_
     refine wS_pure 2 [(27, .int .i64 (x5)), (26, .func (.func 29) #[] #[.pointer (some ⟨b1_0, 0, none⟩), .pointer (some ⟨b1_1, 0, none⟩)])] (by kernel_rfl) ?_
     obtain ⟨y2, hy2, hm⟩ := bindE hm
     refine wS_calls (d := 28) (f := 29) (vs := [.int .i64 (x5), .pointer (some ⟨b1_0, 0, none⟩), .pointer (some ⟨b1_1, 0, none⟩)]) (by kernel_rfl) ent29 (c_impl_NearestJoins_1_bint_bint hy2 F2 F3) ?_
     rintro _ w3 ⟨rfl, hc2⟩
     replace F1 := F1.chg hc2 Dj.nil
     replace F2 := F2.chg hc2 notNil
     replace F3 := F3.chg hc2 notNil
     replace hB := hB.inS hc2 inNil
     replace hZ := Nat.le_trans hZ hc2.size
     refine ⟨.bool (y2), rfl, ?_⟩
     refine wS_pure 1 [(29, .bool (!y2))] (by kernel_rfl) ?_
     refine wS_end (by rfl) ?_
     refine eX_then ?_
     refine cW_cond (t := !y2) (by kernel_rfl) (fun hb3 => ?_) (fun hb3 => ?_)
     ·have hm := condT hb3 hm
      refine cW_seq ?_
      refine cW_region ?_
      refine wS_pure 3 [(32, .int .i64 (x5)), (31, .int .i64 (x2)), (30, .slice A0 (l2).length cap0)] (by kernel_rfl) ?_
      obtain ⟨x6, hx3, hm⟩ := bindE hm
      refine wS_idx (d := 33) (T := 60) (A := A0) (n := (l2).length) (cap := cap0) (kd := .i64) (m := x2) (by kernel_rfl) sl60 ((F1.sl encI_ok).is hx3) ?_
      refine wS_storeEl (x := x6) x5 (T := 3) (U := 3) (cap := cap0) (j := 0) (A := A0) (v := .int .i64 (x5)) (vs := [.int .i64 (x5)]) (m := x2) (by kernel_rfl) (by rfl) sz3 (by rfl) encI_ok F1 hx3 (by simp only [List.length_cons, List.length_nil]; omega) (by rfl) ?_
      intro w4 F4 hc3
      replace F2 := F2.chg hc3 (dj1 (J0__1_0).symm)
      replace F3 := F3.chg hc3 (dj1 (J0__1_1).symm)
      replace hB := hB.inS hc3 (inMem (fun x hx => (List.mem_append_left _ hx)))
      replace hZ := Nat.le_trans hZ hc3.size
      clear F1
      have hl2 := (show (l2.set (Int.toNat x2) x5).length = (l2).length from List.length_set ..).trans hl1
      rewrite [show (l2).length = (l2.set (Int.toNat x2) x5).length from (List.length_set ..).symm]
      refine wS_end (by rfl) ?_
      refine eX_then ?_
      refine cW_region ?_
      refine wS_pure 3 [(5, .int .i64 (wr (x2 + 1))), (35, .int .i64 (wr (x2 + 1))), (34, .int .i64 (x2))] (by kernel_rfl) ?_
      refine wS_end (by rfl) ?_
      have hq : (some ((wr (x2 + 1), l2.set (Int.toNat x2) x5)) : Option (Int × (List (Int)))) = some _ := hm
      replace hq := someE hq
      subst hq
      exact eX_J (fun hst => ⟨wr (x2 + 1), l2.set (Int.toNat x2) x5, rfl, Fr.of hst (by kernel_rfl), F4, F2, F3, hl2, hB, hZ⟩)
     ·have hm := condF hb3 hm
      refine cW_skip ?_
      have hq : (some ((x2, l2)) : Option (Int × (List (Int)))) = some _ := hm
      replace hq := someE hq
      subst hq
      exact eX_J (fun hst => ⟨x2, l2, rfl, Fr.of hst (by kernel_rfl), F1, F2, F3, hl1, hB, hZ⟩)
    ·rintro a' w5 ⟨x4, l3, hJ, hF2, F5, F6, F7, hl3, hB, hZ⟩
     subst hJ
     refine Fr.goX hF2 (by kernel_rfl) ?_
     refine eX_block ?_
     refine eX_then ?_
     refine cW_region ?_
     refine wS_pure 3 [(6, .int .i64 (wr (x3 + 1))), (21, .int .i64 (wr (x3 + 1))), (20, .int .i64 (x3))] (by kernel_rfl) ?_
     refine wS_end (by rfl) ?_
     have hq : (some (Ctl.next ((x4, wr (x3 + 1), l3))) : Option (Ctl (Int × Int × (List (Int))) (Int × (List (Int))))) = some _ := hm
     replace hq := someE hq
     subst hq
     exact eX_next hx1 (fun hst => ⟨x4, wr (x3 + 1), l3, rfl, Fr.of hst (by kernel_rfl), F5, F6, F7, hl3, hB, hZ⟩)
   ·have hm := condF hb2 hm
    refine cW_exit ?_
    refine eX_then_exit ?_
    have hq : (some (Ctl.out ((x2, l2))) : Option (Ctl (Int × Int × (List (Int))) (Int × (List (Int))))) = some _ := hm
    replace hq := someE hq
    subst hq
    refine eX_outX hx1 (fun hr2 => ?_)
    replace hr2 := hr2.symm
    subst hr2
    refine eX_block_hit ?_
    exact eX_J (fun hst => ⟨x2, l2, rfl, Fr.of hst (by kernel_rfl), F1, hl1, hB, hZ⟩)
  ·rintro a' w6 ⟨x1, l1, hJ, hF3, F8, hl4, hB, hZ⟩
   subst hJ
   refine Fr.goX hF3 (by kernel_rfl) ?_
   refine eX_then ?_
   refine cW_seq ?_
   refine cW_region ?_
   refine wS_pure 2 [(37, .int .i64 (x1)), (36, .slice A0 (l1).length cap0)] (by kernel_rfl) ?_
   obtain ⟨y3, hy3, hm⟩ := bindE hm
   refine wS_cutA (enc := encI) (l := l1) (d := 38) (T := 60) (A := A0) (cap := cap0) (vlo := some (.int .i64 (x1))) (vhi := none) (lo := x1) (hi := ((l1).length : Int)) (n := 0) (by kernel_rfl) sl60 (Or.inl rfl) (Or.inr ⟨rfl, rfl⟩) (F8.sl encI_ok) F8.cap_le hy3 ?_
   intro A1 cap1 hA1 F9 hcap1
   obtain rfl := slci_slc hy3
   have hcz1 := F8.cap_le
   refine wS_clear (A' := A1) (c' := cap1) (x0 := (0 : Int)) (l := l1) (l0 := l1) (T := 60) (A := A0) (cap := cap0) (lo := x1) (by kernel_rfl) el60 encI_ok (by rfl) (by kernel_rfl) F8 hA1 hy3 rfl ?_
   intro w7 F10 hlc1 hc4
   replace hB := hB.inS hc4 (inMem (fun x hx => (List.mem_append_left _ hx)))
   replace hZ := Nat.le_trans hZ hc4.size
   clear F8
   have hl5 := hlc1.trans hl4
   rewrite [show (l1).length = (clr (0 : Int) l1 x1).length from hlc1.symm]
   refine wS_end (by rfl) ?_
   refine eX_then ?_
   refine cW_seq ?_
   refine cW_region ?_
   refine wS_pure 2 [(40, .int .i64 (x1)), (39, .slice A0 (clr (0 : Int) l1 x1).length cap0)] (by kernel_rfl) ?_
   obtain ⟨y4, hy4, hm⟩ := bindE hm
   refine wS_prefix (k := 1) (enc := encI) (U := 3) (l := clr (0 : Int) l1 x1) (d := 41) (T := 60) (A := A0) (cap := cap0) (hi := x1) (by kernel_rfl) sl60 encI_ok F10 F10.cap_le hy4 ?_
   intro hpe F11
   subst hpe
   refine wS_pure 1 [(4, .slice A0 ((clr (0 : Int) l1 x1).take (Int.toNat x1)).length cap0)] (by kernel_rfl) ?_
   refine wS_end (by rfl) ?_
   refine eX_then ?_
   refine cW_ret ?_
   have hq : (some ((clr (0 : Int) l1 x1).take (Int.toNat x1)) : Option ((List (Int)))) = some _ := hm
   replace hq := someE hq
   subst hq
   refine eX_ret (vs := [.slice A0 ((clr (0 : Int) l1 x1).take (Int.toNat x1)).length cap0]) [.tmp 4] (by rfl) ⟨by (show lkE _ _ _ = _); kernel_rfl, trivial⟩ ?_
   exact ⟨rfl, F11, hB⟩

set_option maxHeartbeats 20000000 in
set_option maxRecDepth 100000 in
/-- impl.NearestJoins -/
theorem c_impl_NearestJoins {w0 : World} {l0 : List (Int × Int)} {A0 : Option Addr} {cap0 : Nat} {fp0 : List Nat} {r : (List (List (Int))) × (Bool)} (hm : m_impl_NearestJoins l0 = some r) (F0 : Sl 2 encII w0 fp0 A0 l0) :
  Calls Try.prog 8 #[.slice A0 (l0).length cap0] w0 fun e w' => ∃ A100 cap100 fp100 fr100, e = .returned (.tuple #[.slice A100 (r.1).length cap100, .bool (r.2)]) ∧ OwR 1 encI 32 2 w' fp100 fr100 A100 cap100 r.1 ∧ (∀ x ∈ fp100 ++ fr100, w0.heap.size ≤ x) ∧ Chg [] w0 w' := by
 have L0 := F0.low
 have hB : Chg [] w0 w0 := Chg.refl _ _
 have hZ := Nat.le_refl w0.heap.size
 unfold m_impl_NearestJoins at hm
 refine enterE (N := 129) Try.func8 (by rfl) Try.ntmps8 (by simp) [(0, .slice A0 (l0).length cap0)] (by rfl) (by kernel_rfl) (fun a => ?_)
 refine cW_seq ?_
 refine cW_region ?_
 refine wS_pure 2 [(3, .bool (false)), (2, .slice none 0 0)] (by kernel_rfl) ?_
 refine wS_end (by rfl) ?_
 refine eX_then ?_
 refine cW_seq ?_
 refine cW_seq ?_
 refine cW_region ?_
 refine wS_pure 1 [(19, .slice A0 (l0).length cap0)] (by kernel_rfl) ?_
 obtain ⟨y1, hy1, hm⟩ := bindE hm
 refine wS_calls (d := 20) (f := 23) (vs := [.slice A0 (l0).length cap0]) (by kernel_rfl) ent23 (c_impl_clockPins hy1 F0) ?_
 rintro _ w1 ⟨rfl, hc1⟩
 replace F0 := F0.chg hc1 Dj.nil
 replace hB := hB.inS hc1 inNil
 replace hZ := Nat.le_trans hZ hc1.size
 refine ⟨.bool (y1), rfl, ?_⟩
 refine wS_pure 1 [(21, .bool (!y1))] (by kernel_rfl) ?_
 refine wS_end (by rfl) ?_
 refine eX_then ?_
 refine cW_cond (t := !y1) (by kernel_rfl) (fun hb1 => ?_) (fun hb1 => ?_)
 ·have hm := condT hb1 hm
  refine cW_seq ?_
  refine cW_region ?_
  refine wS_pure 2 [(3, .bool (false)), (2, .slice none 0 0)] (by kernel_rfl) ?_
  refine wS_end (by rfl) ?_
  refine eX_then ?_
  refine cW_ret ?_
  refine eX_then_ret ?_
  have hq : (some (([], false)) : Option ((List (List (Int))) × (Bool))) = some _ := hm
  replace hq := someE hq
  subst hq
  refine eX_ret (vs := [.slice none 0 0, .bool (false)]) [.tmp 2, .tmp 3] (by rfl) ⟨by (show lkE _ _ _ = _); kernel_rfl, ⟨by (show lkE _ _ _ = _); kernel_rfl, trivial⟩⟩ ?_
  exact ⟨none, 0, [], [], rfl, OwR.nil _, (lowApp lowNil lowNil), hB⟩
 ·have hm := condF hb1 hm
  refine cW_skip ?_
  refine eX_then ?_
  refine cW_seq ?_
  refine cW_region ?_
  refine wS_bs0 (α := Int × Int × Int × Int × Int) (enc := encIIIII) (d := 22) (t := 51) (T := 58) (by kernel_rfl) el51 ?_
  intro b1 w2 G1 F1 hc2
  replace F0 := F0.chg hc2 Dj.nil
  replace hB := hB.inS hc2 inNil
  replace G1 := Nat.le_trans hZ G1
  replace G1 := low1 G1
  replace hZ := Nat.le_trans hZ hc2.size
  refine wS_bs0 (α := Int) (enc := encI) (d := 23) (t := 60) (T := 3) (by kernel_rfl) el60 ?_
  intro b2 w3 G2 F2 hc3
  have D1 : Dj [b1] [b2] := Dj.of F1.low (low1 G2)
  replace F0 := F0.chg hc3 Dj.nil
  replace F1 := F1.chg hc3 Dj.nil
  replace hB := hB.inS hc3 inNil
  replace G2 := Nat.le_trans hZ G2
  replace G2 := low1 G2
  replace hZ := Nat.le_trans hZ hc3.size
  refine wS_rows0 (k := 1) (enc := encI) (d := 24) (t := 26) (T := 32) (T2 := 2) (by kernel_rfl) el26 ?_
  intro b3 w4 G3 F3 hc4
  have D2 : Dj [b1] ([b3] ++ []) := Dj.of F1.low (lowApp (low1 G3) lowNil)
  have D3 : Dj [b2] ([b3] ++ []) := Dj.of F2.low (lowApp (low1 G3) lowNil)
  replace F0 := F0.chg hc4 Dj.nil
  replace F1 := F1.chg hc4 Dj.nil
  replace F2 := F2.chg hc4 Dj.nil
  replace hB := hB.inS hc4 inNil
  replace G3 := Nat.le_trans hZ G3
  replace G3 := low1 G3
  replace hZ := Nat.le_trans hZ hc4.size
  replace G3 := lowApp G3 lowNil
  refine wS_pure 3 [(6, .slice (some ⟨b3, 0, none⟩) (([] : List (List (Int)))).length 0), (5, .slice (some ⟨b2, 0, none⟩) (([] : List (Int))).length 0), (4, .slice (some ⟨b1, 0, none⟩) (([] : List (Int × Int × Int × Int × Int))).length 0)] (by kernel_rfl) ?_
  refine wS_end (by rfl) ?_
  refine eX_then ?_
  refine cW_seq ?_
  refine cW_seq ?_
  refine cW_region ?_
  refine wS_pure 3 [(27, .int .i64 (0)), (26, .int .i64 (((l0).length : Int))), (25, .slice A0 (l0).length cap0)] (by kernel_rfl) ?_
  refine wS_end (by rfl) ?_
  refine eX_then ?_
  obtain ⟨r1, hr1, hm⟩ := bindE hm
  have hm1 := hm
  refine cW_cut (fun a' w' => ∃ l1 : List (Int × Int × Int × Int × Int), ∃ A1 : Option Addr, ∃ cap1 : Nat, ∃ fp1 : List Nat, ∃ l3 : List (Int), ∃ A3 : Option Addr, ∃ cap3 : Nat, ∃ fp2 : List Nat, (l1, l3) = r1 ∧ Fr 129 [(4, .slice A1 (l1).length cap1), (5, .slice A3 (l3).length cap3), (6, .slice (some ⟨b3, 0, none⟩) (([] : List (List (Int)))).length 0)] a' ∧ OwR 1 encI 32 2 w' [b3] [] (some ⟨b3, 0, none⟩) 0 (([] : List (List (Int)))) ∧ Ow 5 encIIIII 58 w' fp1 A1 cap1 l1 ∧ Ow 1 encI 3 w' fp2 A3 cap3 l3 ∧ (∀ x ∈ fp1, w0.heap.size ≤ x) ∧ (∀ x ∈ fp2, w0.heap.size ≤ x) ∧ Dj ([b3] ++ []) fp1 ∧ Dj fp2 fp1 ∧ Dj ([b3] ++ []) fp2 ∧ Chg [] w0 w' ∧ w0.heap.size ≤ w'.heap.size) ?_ ?_
  ·refine cW_block ?_
   refine cW_loop _ (fun (s1 : (List (Int × Int × Int × Int × Int)) × (List (Int)) × Int) a' w' => ∃ l4 : List (Int × Int × Int × Int × Int), ∃ A4 : Option Addr, ∃ cap4 : Nat, ∃ fp3 : List Nat, ∃ l5 : List (Int), ∃ A5 : Option Addr, ∃ cap5 : Nat, ∃ fp4 : List Nat, ∃ x1 : Int, (l4, l5, x1) = s1 ∧ Fr 129 [(4, .slice A4 (l4).length cap4), (5, .slice A5 (l5).length cap5), (6, .slice (some ⟨b3, 0, none⟩) (([] : List (List (Int)))).length 0), (25, .slice A0 (l0).length cap0), (26, .int .i64 (((l0).length : Int))), (27, .int .i64 (x1))] a' ∧ Sl 2 encII w' fp0 A0 l0 ∧ OwR 1 encI 32 2 w' [b3] [] (some ⟨b3, 0, none⟩) 0 (([] : List (List (Int)))) ∧ Ow 5 encIIIII 58 w' fp3 A4 cap4 l4 ∧ Ow 1 encI 3 w' fp4 A5 cap5 l5 ∧ (∀ x ∈ fp3, w0.heap.size ≤ x) ∧ (∀ x ∈ fp4, w0.heap.size ≤ x) ∧ Dj ([b3] ++ []) fp3 ∧ Dj fp4 fp3 ∧ Dj ([b3] ++ []) fp4 ∧ Chg [] w0 w' ∧ w0.heap.size ≤ w'.heap.size) hr1 (fun hst => ⟨([] : List (Int × Int × Int × Int × Int)), (some ⟨b1, 0, none⟩), 0, [b1], ([] : List (Int)), (some ⟨b2, 0, none⟩), 0, [b2], 0, rfl, Fr.of hst (by kernel_rfl), F0, F3, F1, F2, G1, G2, (D2).symm, (D1).symm, (D3).symm, hB, hZ⟩) ?_
   rintro _ c1 a' w5 ⟨l4, A4, cap4, fp3, l5, A5, cap5, fp4, x1, rfl, hF1, F4, F5, F6, F7, G4, G5, D4, D5, D6, hB, hZ⟩ hx1
   refine Fr.goOn hF1 (by kernel_rfl) ?_
   have hm := hx1
   unfold m_impl_NearestJoins_s1 at hm
   refine cW_seq ?_
   refine cW_region ?_
   refine wS_pure 1 [(28, .bool (decide (x1 < (((l0).length : Int)))))] (by kernel_rfl) ?_
   refine wS_end (by rfl) ?_
   refine eX_then ?_
   refine cW_seq ?_
   refine cW_cond (t := decide (x1 < (((l0).length : Int)))) (by kernel_rfl) (fun hb2 => ?_) (fun hb2 => ?_)
   ·have hm := condT hb2 hm
    refine cW_skip ?_
    refine eX_then ?_
    refine cW_seq ?_
    refine cW_block ?_
    refine cW_seq ?_
    refine cW_region ?_
    refine wS_pure 1 [(29, .int .i64 (x1))] (by kernel_rfl) ?_
    obtain ⟨x2, hx2, hm⟩ := bindE hm
    refine wS_idx (d := 30) (T := 24) (A := A0) (n := (l0).length) (cap := cap0) (kd := .i64) (m := x1) (by kernel_rfl) sl24 (F4.is hx2) ?_
    refine wS_loadA (d := 31) (T := 49) (ad := (elA A0 2 (x1) 0)) (vs := [.int .i64 (x2.1), .int .i64 (x2.2)]) (by kernel_rfl) vt49 (fun i u hu => Sl.cells_at F4 hx2 0 hu (by rfl)) ?_
    refine wS_alloc (d := 8) (T := 49) (z := .agg #[.int .i64 (0), .int .i64 (0)]) (by kernel_rfl) (by kernel_rfl) ?_
    intro b4 w6 G6 F8 hc5
    replace F8 : Cl w6 b4 49 [.int .i64 (0), .int .i64 (0)] := F8
    have D7 : Dj ([b3] ++ []) [b4] := Dj.of F5.low (low1 G6)
    have D8 : Dj fp3 [b4] := Dj.of F6.low (low1 G6)
    have D9 : Dj fp4 [b4] := Dj.of F7.low (low1 G6)
    replace F4 := F4.chg hc5 Dj.nil
    replace F5 := F5.chg hc5 Dj.nil
    replace F6 := F6.chg hc5 Dj.nil
    replace F7 := F7.chg hc5 Dj.nil
    replace hB := hB.inS hc5 inNil
    replace G6 := Nat.le_trans hZ G6
    replace hZ := Nat.le_trans hZ hc5.size
    refine wS_pure 1 [(7, .int .i64 (x1))] (by kernel_rfl) ?_
    refine wS_store (T := 49) (g := b4) (o := 0) (ad := ⟨b4, 0, none⟩) (v := .agg #[.int .i64 (x2.1), .int .i64 (x2.2)]) (vs := [.int .i64 (x2.1), .int .i64 (x2.2)]) (by kernel_rfl) (by rfl) sz49 (by rfl) (by rfl) F8 (by simp only [List.length_cons, List.length_nil]; omega) ?_
    intro w7 F9 hc6
    replace F4 := F4.chg hc6 (Dj.of L0 (low1 G6))
    replace F5 := F5.chg hc6 D7
    replace F6 := F6.chg hc6 D8
    replace F7 := F7.chg hc6 D9
    replace hB := hB.inS hc6 (inLow (low1 G6))
    replace hZ := Nat.le_trans hZ hc6.size
    replace F9 : Cl w7 b4 49 [.int .i64 (x2.1), .int .i64 (x2.2)] := F9
    clear F8
    refine wS_end (by rfl) ?_
    refine eX_then ?_
    refine cW_region ?_
    refine wS_pure 1 [(32, .slice A4 (l4).length cap4)] (by kernel_rfl) ?_
    refine wS_loadA (d := 33) (T := 49) (ad := ⟨b4, 0, none⟩) (vs := [.int .i64 (x2.1), .int .i64 (x2.2)]) (by kernel_rfl) vt49 (fun i u hu => box_cells F9 0 hu (by rfl)) ?_
    obtain ⟨y2, hy2, hm⟩ := bindE hm
    refine wS_calls (d := 34) (f := 24) (vs := [.agg #[.int .i64 (x2.1), .int .i64 (x2.2)]]) (by kernel_rfl) ent24 (c_impl_leaf hy2) ?_
    rintro _ w8 ⟨rfl, hc7⟩
    replace F4 := F4.chg hc7 Dj.nil
    replace F5 := F5.chg hc7 Dj.nil
    replace F6 := F6.chg hc7 Dj.nil
    replace F7 := F7.chg hc7 Dj.nil
    replace F9 := F9.chg hc7 notNil
    replace hB := hB.inS hc7 inNil
    replace hZ := Nat.le_trans hZ hc7.size
    refine ⟨.agg #[.int .i64 (y2.1), .int .i64 (y2.2.1), .int .i64 (y2.2.2.1), .int .i64 (y2.2.2.2)], rfl, ?_⟩
    refine wS_pure 1 [(35, .agg #[.int .i64 (y2.1), .int .i64 (y2.2.1), .int .i64 (y2.2.2.1), .int .i64 (y2.2.2.2), .int .i64 (0)])] (by kernel_rfl) ?_
    refine wS_bs (enc := encIIIII) ([(y2.1, y2.2.1, y2.2.2.1, y2.2.2.2, 0)] : List (Int × Int × Int × Int × Int)) [.int .i64 (y2.1), .int .i64 (y2.2.1), .int .i64 (y2.2.2.1), .int .i64 (y2.2.2.2), .int .i64 (0)] (d := 36) (t := 51) (T := 58) (n := 1) (ps := [(0, .agg #[.int .i64 (y2.1), .int .i64 (y2.2.1), .int .i64 (y2.2.2.1), .int .i64 (y2.2.2.2), .int .i64 (0)])]) (by kernel_rfl) el51 encIIIII_ok (by rfl) (by omega) (by omega) (by kernel_rfl) (by rfl) ?_
    intro b5 w9 G7 F10 hc8
    have D10 : Dj ([b3] ++ []) [b5] := Dj.of F5.low (low1 G7)
    have D11 : Dj fp3 [b5] := Dj.of F6.low (low1 G7)
    have D12 : Dj fp4 [b5] := Dj.of F7.low (low1 G7)
    have D13 : Dj [b4] [b5] := Dj.of (lt1 F9.lt) (low1 G7)
    replace F4 := F4.chg hc8 Dj.nil
    replace F5 := F5.chg hc8 Dj.nil
    replace F6 := F6.chg hc8 Dj.nil
    replace F7 := F7.chg hc8 Dj.nil
    replace F9 := F9.chg hc8 notNil
    replace hB := hB.inS hc8 inNil
    replace G7 := Nat.le_trans hZ G7
    replace G7 := low1 G7
    replace hZ := Nat.le_trans hZ hc8.size
    obtain ⟨_, hk1, hm⟩ := bindE hm
    replace hk1 := apE hk1
    refine wS_append (enc := encIIIII) (l := (l4 : List (Int × Int × Int × Int × Int))) (l2 := (([(y2.1, y2.2.1, y2.2.2.1, y2.2.2.2, 0)] : List (Int × Int × Int × Int × Int)) : List (Int × Int × Int × Int × Int))) (d := 37) (t := 51) (T := 58) (A := A4) (A2 := (some ⟨b5, 0, none⟩)) (cap := cap4) (cap2 := 1) (by kernel_rfl) el51 encIIIII_ok F6 (F10.sl encIIIII_ok) (by rfl) hk1 ?_
    intro w10 fp5 A6 cap6 F11 hc9 hp1
    have G8 := low_ap G4 hZ hp1
    have D14 : Dj ([b3] ++ []) fp5 := Dj.ap D4 F5.low hp1
    have D15 : Dj fp4 fp5 := Dj.ap D5 F7.low hp1
    have D16 : Dj [b4] fp5 := Dj.ap (D8).symm (lt1 F9.lt) hp1
    have D17 : Dj [b5] fp5 := Dj.ap (D11).symm F10.low hp1
    replace F4 := F4.chg hc9 (Dj.of L0 G4)
    replace F5 := F5.chg hc9 D4
    replace F7 := F7.chg hc9 D5
    replace F9 := F9.chg hc9 (dj1 (D8).symm)
    replace F10 := F10.chg hc9 (D11).symm
    replace hB := hB.inS hc9 (inLow G4)
    replace hZ := Nat.le_trans hZ hc9.size
    refine wS_pure 2 [(39, .int .i64 (x1)), (38, .slice A5 (l5).length cap5)] (by kernel_rfl) ?_
    refine wS_bs (enc := encI) ([x1] : List (Int)) [.int .i64 (x1)] (d := 40) (t := 60) (T := 3) (n := 1) (ps := [(0, .int .i64 (x1))]) (by kernel_rfl) el60 encI_ok (by rfl) (by omega) (by omega) (by kernel_rfl) (by rfl) ?_
    intro b6 w11 G9 F12 hc10
    have D18 : Dj ([b3] ++ []) [b6] := Dj.of F5.low (low1 G9)
    have D19 : Dj fp4 [b6] := Dj.of F7.low (low1 G9)
    have D20 : Dj [b4] [b6] := Dj.of (lt1 F9.lt) (low1 G9)
    have D21 : Dj [b5] [b6] := Dj.of F10.low (low1 G9)
    have D22 : Dj fp5 [b6] := Dj.of F11.low (low1 G9)
    replace F4 := F4.chg hc10 Dj.nil
    replace F5 := F5.chg hc10 Dj.nil
    replace F7 := F7.chg hc10 Dj.nil
    replace F9 := F9.chg hc10 notNil
    replace F10 := F10.chg hc10 Dj.nil
    replace F11 := F11.chg hc10 Dj.nil
    replace hB := hB.inS hc10 inNil
    replace G9 := Nat.le_trans hZ G9
    replace G9 := low1 G9
    replace hZ := Nat.le_trans hZ hc10.size
    obtain ⟨_, hk2, hm⟩ := bindE hm
    replace hk2 := apE hk2
    refine wS_append (enc := encI) (l := (l5 : List (Int))) (l2 := (([x1] : List (Int)) : List (Int))) (d := 41) (t := 60) (T := 3) (A := A5) (A2 := (some ⟨b6, 0, none⟩)) (cap := cap5) (cap2 := 1) (by kernel_rfl) el60 encI_ok F7 (F12.sl encI_ok) (by rfl) hk2 ?_
    intro w12 fp6 A7 cap7 F13 hc11 hp2
    have G10 := low_ap G5 hZ hp2
    have D23 : Dj ([b3] ++ []) fp6 := Dj.ap D6 F5.low hp2
    have D24 : Dj [b4] fp6 := Dj.ap (D9).symm (lt1 F9.lt) hp2
    have D25 : Dj [b5] fp6 := Dj.ap (D12).symm F10.low hp2
    have D26 : Dj fp5 fp6 := Dj.ap (D15).symm F11.low hp2
    have D27 : Dj [b6] fp6 := Dj.ap (D19).symm F12.low hp2
    replace F4 := F4.chg hc11 (Dj.of L0 G5)
    replace F5 := F5.chg hc11 D6
    replace F9 := F9.chg hc11 (dj1 (D9).symm)
    replace F10 := F10.chg hc11 (D12).symm
    replace F11 := F11.chg hc11 (D15).symm
    replace F12 := F12.chg hc11 (D19).symm
    replace hB := hB.inS hc11 (inLow G5)
    replace hZ := Nat.le_trans hZ hc11.size
    refine wS_pure 2 [(5, .slice A7 (l5 ++ (([x1] : List (Int)))).length cap7), (4, .slice A6 (l4 ++ (([(y2.1, y2.2.1, y2.2.2.1, y2.2.2.2, 0)] : List (Int × Int × Int × Int × Int)))).length cap6)] (by kernel_rfl) ?_
    refine wS_end (by rfl) ?_
    refine eX_block ?_
    refine eX_then ?_
    refine cW_region ?_
    refine wS_pure 2 [(27, .int .i64 (wr (x1 + 1))), (42, .int .i64 (wr (x1 + 1)))] (by kernel_rfl) ?_
    refine wS_end (by rfl) ?_
    have hq : (some (Ctl.next ((l4 ++ (([(y2.1, y2.2.1, y2.2.2.1, y2.2.2.2, 0)] : List (Int × Int × Int × Int × Int))), l5 ++ (([x1] : List (Int))), wr (x1 + 1)))) : Option (Ctl ((List (Int × Int × Int × Int × Int)) × (List (Int)) × Int) ((List (Int × Int × Int × Int × Int)) × (List (Int))))) = some _ := hm
    replace hq := someE hq
    subst hq
    exact eX_next hx1 (fun hst => ⟨l4 ++ (([(y2.1, y2.2.1, y2.2.2.1, y2.2.2.2, 0)] : List (Int × Int × Int × Int × Int))), A6, cap6, fp5, l5 ++ (([x1] : List (Int))), A7, cap7, fp6, wr (x1 + 1), rfl, Fr.of hst (by kernel_rfl), F4, F5, F11, F13, G8, G10, D14, (D26).symm, D23, hB, hZ⟩)
   ·have hm := condF hb2 hm
    refine cW_exit ?_
    refine eX_then_exit ?_
    have hq : (some (Ctl.out ((l4, l5))) : Option (Ctl ((List (Int × Int × Int × Int × Int)) × (List (Int)) × Int) ((List (Int × Int × Int × Int × Int)) × (List (Int))))) = some _ := hm
    replace hq := someE hq
    subst hq
    refine eX_outX hx1 (fun hr2 => ?_)
    replace hr2 := hr2.symm
    subst hr2
    refine eX_block_hit ?_
    exact eX_J (fun hst => ⟨l4, A4, cap4, fp3, l5, A5, cap5, fp4, rfl, Fr.of hst (by kernel_rfl), F5, F6, F7, G4, G5, D4, D5, D6, hB, hZ⟩)
  ·rintro a' w13 ⟨l1, A1, cap1, fp1, l3, A3, cap3, fp2, hJ, hF2, F14, F15, F16, G11, G12, D28, D29, D30, hB, hZ⟩
   subst hJ
   refine Fr.goX hF2 (by kernel_rfl) ?_
   refine eX_then ?_
   refine cW_seq ?_
   obtain ⟨r2, hr3, hm⟩ := bindE hm
   have hm2 := hm
   refine cW_cut (fun a' w' => ∃ l6 : List (List (Int)), ∃ A8 : Option Addr, ∃ cap8 : Nat, ∃ fp7 : List Nat, ∃ fr1 : List Nat, Sum.inl l6 = r2 ∧ Fr 129 [(6, .slice A8 (l6).length cap8)] a' ∧ OwR 1 encI 32 2 w' fp7 fr1 A8 cap8 l6 ∧ (∀ x ∈ (fp7 ++ fr1), w0.heap.size ≤ x) ∧ Chg [] w0 w' ∧ w0.heap.size ≤ w'.heap.size) ?_ ?_
   ·refine cW_block ?_
    refine cW_loop _ (fun (s2 : (List (Int × Int × Int × Int × Int)) × (List (Int)) × (List (List (Int)))) a' w' => ∃ l7 : List (Int × Int × Int × Int × Int), ∃ A9 : Option Addr, ∃ cap9 : Nat, ∃ fp8 : List Nat, ∃ l8 : List (Int), ∃ A10 : Option Addr, ∃ cap10 : Nat, ∃ fp9 : List Nat, ∃ l9 : List (List (Int)), ∃ A11 : Option Addr, ∃ cap11 : Nat, ∃ fp10 : List Nat, ∃ fr2 : List Nat, (l7, l8, l9) = s2 ∧ Fr 129 [(4, .slice A9 (l7).length cap9), (5, .slice A10 (l8).length cap10), (6, .slice A11 (l9).length cap11)] a' ∧ Ow 5 encIIIII 58 w' fp8 A9 cap9 l7 ∧ Ow 1 encI 3 w' fp9 A10 cap10 l8 ∧ OwR 1 encI 32 2 w' fp10 fr2 A11 cap11 l9 ∧ (∀ x ∈ fp8, w0.heap.size ≤ x) ∧ (∀ x ∈ fp9, w0.heap.size ≤ x) ∧ (∀ x ∈ (fp10 ++ fr2), w0.heap.size ≤ x) ∧ Dj fp9 fp8 ∧ Dj (fp10 ++ fr2) fp8 ∧ Dj (fp10 ++ fr2) fp9 ∧ Chg [] w0 w' ∧ w0.heap.size ≤ w'.heap.size) hr3 (fun hst => ⟨l1, A1, cap1, fp1, l3, A3, cap3, fp2, ([] : List (List (Int))), (some ⟨b3, 0, none⟩), 0, [b3], [], rfl, Fr.of hst (by kernel_rfl), F15, F16, F14, G11, G12, G3, D29, D28, D30, hB, hZ⟩) ?_
    rintro _ c2 a' w14 ⟨l7, A9, cap9, fp8, l8, A10, cap10, fp9, l9, A11, cap11, fp10, fr2, rfl, hF3, F17, F18, F19, G13, G14, G15, D31, D32, D33, hB, hZ⟩ hx3
    refine Fr.goOn hF3 (by kernel_rfl) ?_
    have hm := hx3
    unfold m_impl_NearestJoins_s10 at hm
    refine cW_seq ?_
    refine cW_seq ?_
    refine cW_region ?_
    refine wS_pure 3 [(45, .bool (decide ((((l8).length : Int)) > 1))), (44, .int .i64 (((l8).length : Int))), (43, .slice A10 (l8).length cap10)] (by kernel_rfl) ?_
    refine wS_end (by rfl) ?_
    refine eX_then ?_
    refine cW_cond (t := decide ((((l8).length : Int)) > 1)) (by kernel_rfl) (fun hb3 => ?_) (fun hb3 => ?_)
    ·have hm := condT hb3 hm
     refine cW_skip ?_
     refine eX_then ?_
     refine cW_block ?_
     refine cW_seq ?_
     obtain ⟨s3, hs1, hm⟩ := bindE hm
     refine cW_cut (fun a' w' => ∃ b7 : Nat, ∃ x3 : Int, ∃ b8 : Nat, ∃ x4 : Int, (x3, x4) = s3 ∧ Fr 129 [(4, .slice A9 (l7).length cap9), (5, .slice A10 (l8).length cap10), (6, .slice A11 (l9).length cap11), (9, .pointer (some ⟨b7, 0, none⟩)), (10, .pointer (some ⟨b8, 0, none⟩))] a' ∧ Ow 5 encIIIII 58 w' fp8 A9 cap9 l7 ∧ Ow 1 encI 3 w' fp9 A10 cap10 l8 ∧ OwR 1 encI 32 2 w' fp10 fr2 A11 cap11 l9 ∧ Cl w' b7 3 [.int .i64 (x3)] ∧ Cl w' b8 3 [.int .i64 (x4)] ∧ w0.heap.size ≤ b7 ∧ w0.heap.size ≤ b8 ∧ Dj fp8 [b7] ∧ Dj fp9 [b7] ∧ Dj (fp10 ++ fr2) [b7] ∧ Dj [b8] [b7] ∧ Dj fp8 [b8] ∧ Dj fp9 [b8] ∧ Dj (fp10 ++ fr2) [b8] ∧ Chg [] w0 w' ∧ w0.heap.size ≤ w'.heap.size) ?_ ?_
     ·have hm := hs1
      refine cW_drawnTail [] 9 (by kernel_rfl) (by kernel_rfl) (fun w15 hc12 => ?_)
      replace F17 := F17.chg hc12 Dj.nil
      replace F18 := F18.chg hc12 Dj.nil
      replace F19 := F19.chg hc12 Dj.nil
      replace hB := hB.inS hc12 inNil
      replace hZ := Nat.le_trans hZ hc12.size
      have hS := Chg.refl [] w15
      have Z1 := F17
      have Z2 := F18
      have Z3 := F19
      refine wH_take [0] [0] [(46, .slice A10 (l8).length cap10)] (by kernel_rfl) (qT (qT (qT (qB (qL (qB (qT (qT qZ)))))))) (by kernel_rfl) ?_
      obtain ⟨x5, hx4, hm⟩ := bindE hm
      refine wH_idx (i := 1) (d := 47) (T := 60) (A := A10) (n := (l8).length) (cap := cap10) (kd := .i64) (m := 0) (by kernel_rfl) (qT (qT (qT (qB (qL (qB (qT (qT qZ)))))))) (by kernel_rfl) (by kernel_rfl) sl60 ((F18.sl encI_ok).is hx4) ?_
      refine wH_load1 (i := 2) (d := 48) (T := 3) (ad := (elA A10 1 (0) 0)) (v := .int .i64 (x5)) (by kernel_rfl) (qT (qT (qT (qB (qL (qB (qT (qT qZ)))))))) (by kernel_rfl) (by kernel_rfl) vt3 (fun W hW => Sl.cell ((Z2.chg hW Dj.nil).sl encI_ok) hx4 0 (by rfl)) ?_
      refine wH_take [3] [3, 2, 1, 0] [(49, .slice A10 (l8).length cap10)] (by kernel_rfl) (qT (qT (qT (qB (qL (qB (qT (qT qZ)))))))) (by kernel_rfl) ?_
      obtain ⟨x6, hx5, hm⟩ := bindE hm
      refine wH_idx (i := 4) (d := 50) (T := 60) (A := A10) (n := (l8).length) (cap := cap10) (kd := .i64) (m := 1) (by kernel_rfl) (qT (qT (qT (qB (qL (qB (qT (qT qZ)))))))) (by kernel_rfl) (by kernel_rfl) sl60 ((F18.sl encI_ok).is hx5) ?_
      refine wH_load1 (i := 5) (d := 51) (T := 3) (ad := (elA A10 1 (1) 0)) (v := .int .i64 (x6)) (by kernel_rfl) (qT (qT (qT (qB (qL (qB (qT (qT qZ)))))))) (by kernel_rfl) (by kernel_rfl) vt3 (fun W hW => Sl.cell ((Z2.chg hW Dj.nil).sl encI_ok) hx5 0 (by rfl)) ?_
      refine wH_all [6, 7] (by rfl) (by kernel_rfl) (by simp) ⟨⟨by kernel_rfl, ?_⟩, ⟨by kernel_rfl, ?_⟩, trivial⟩
      ·skip
       refine wS_alloc (d := 9) (T := 3) (z := .int .i64 (0)) (by kernel_rfl) (by kernel_rfl) ?_
       intro b9 w16 G16 F20 hc13
       replace F20 : Cl w16 b9 3 [.int .i64 (0)] := F20
       have D34 : Dj fp8 [b9] := Dj.of F17.low (low1 G16)
       have D35 : Dj fp9 [b9] := Dj.of F18.low (low1 G16)
       have D36 : Dj (fp10 ++ fr2) [b9] := Dj.of F19.low (low1 G16)
       replace F17 := F17.chg hc13 Dj.nil
       replace F18 := F18.chg hc13 Dj.nil
       replace F19 := F19.chg hc13 Dj.nil
       replace hB := hB.inS hc13 inNil
       have hSz := hS
       replace hS := hS.inS hc13 inNil
       have Gz1 := low1 (Nat.le_trans hSz.size G16)
       replace G16 := Nat.le_trans hZ G16
       replace hZ := Nat.le_trans hZ hc13.size
       refine wS_end (by kernel_rfl) ?_
       refine eX_KH hS ?_
       refine wH_all [7] (by rfl) (by kernel_rfl) (by simp) ⟨⟨by kernel_rfl, ?_⟩, trivial⟩
       refine wS_alloc (d := 10) (T := 3) (z := .int .i64 (0)) (by kernel_rfl) (by kernel_rfl) ?_
       intro b10 w17 G17 F21 hc14
       replace F21 : Cl w17 b10 3 [.int .i64 (0)] := F21
       have D37 : Dj fp8 [b10] := Dj.of F17.low (low1 G17)
       have D38 : Dj fp9 [b10] := Dj.of F18.low (low1 G17)
       have D39 : Dj (fp10 ++ fr2) [b10] := Dj.of F19.low (low1 G17)
       have D40 : Dj [b9] [b10] := Dj.of (lt1 F20.lt) (low1 G17)
       replace F17 := F17.chg hc14 Dj.nil
       replace F18 := F18.chg hc14 Dj.nil
       replace F19 := F19.chg hc14 Dj.nil
       replace F20 := F20.chg hc14 notNil
       replace hB := hB.inS hc14 inNil
       have hSz := hS
       replace hS := hS.inS hc14 inNil
       have Gz2 := low1 (Nat.le_trans hSz.size G17)
       replace G17 := Nat.le_trans hZ G17
       replace hZ := Nat.le_trans hZ hc14.size
       refine wS_end (by kernel_rfl) ?_
       refine eX_KH hS ?_
       refine wH_all [8] (by rfl) (by kernel_rfl) (by simp) ⟨⟨by kernel_rfl, ?_⟩, trivial⟩
       refine wS_store (T := 3) (g := b9) (o := 0) (ad := ⟨b9, 0, none⟩) (v := .int .i64 (x5)) (vs := [.int .i64 (x5)]) (by kernel_rfl) (by rfl) sz3 (by rfl) (by rfl) F20 (by simp only [List.length_cons, List.length_nil]; omega) ?_
       intro w18 F22 hc15
       replace F17 := F17.chg hc15 D34
       replace F18 := F18.chg hc15 D35
       replace F19 := F19.chg hc15 D36
       replace F21 := F21.chg hc15 (dj1 (D40).symm)
       replace hB := hB.inS hc15 (inLow (low1 G16))
       have hSz := hS
       replace hS := hS.inS hc15 (inLow Gz1)
       replace hZ := Nat.le_trans hZ hc15.size
       replace F22 : Cl w18 b9 3 [.int .i64 (x5)] := F22
       clear F20
       refine wS_end (by kernel_rfl) ?_
       refine eX_KH hS ?_
       refine wH_done (by kernel_rfl) ?_
       refine eX_tail ?_
       refine wS_store (T := 3) (g := b10) (o := 0) (ad := ⟨b10, 0, none⟩) (v := .int .i64 (x6)) (vs := [.int .i64 (x6)]) (by kernel_rfl) (by rfl) sz3 (by rfl) (by rfl) F21 (by simp only [List.length_cons, List.length_nil]; omega) ?_
       intro w19 F23 hc16
       replace F17 := F17.chg hc16 D37
       replace F18 := F18.chg hc16 D38
       replace F19 := F19.chg hc16 D39
       replace F22 := F22.chg hc16 (dj1 D40)
       replace hB := hB.inS hc16 (inLow (low1 G17))
       replace hZ := Nat.le_trans hZ hc16.size
       replace F23 : Cl w19 b10 3 [.int .i64 (x6)] := F23
       clear F21
       refine wS_end (by rfl) ?_
       have hq : (some ((x5, x6)) : Option (Int × Int)) = some _ := hm
       replace hq := someE hq
       subst hq
       exact eX_J (fun hst => ⟨b9, x5, b10, x6, rfl, Fr.of hst (by kernel_rfl), F17, F18, F19, F22, F23, G16, G17, D34, D35, D36, (D40).symm, D37, D38, D39, hB, hZ⟩)
      ·skip
       refine wS_alloc (d := 10) (T := 3) (z := .int .i64 (0)) (by kernel_rfl) (by kernel_rfl) ?_
       intro b11 w20 G18 F24 hc17
       replace F24 : Cl w20 b11 3 [.int .i64 (0)] := F24
       have D41 : Dj fp8 [b11] := Dj.of F17.low (low1 G18)
       have D42 : Dj fp9 [b11] := Dj.of F18.low (low1 G18)
       have D43 : Dj (fp10 ++ fr2) [b11] := Dj.of F19.low (low1 G18)
       replace F17 := F17.chg hc17 Dj.nil
       replace F18 := F18.chg hc17 Dj.nil
       replace F19 := F19.chg hc17 Dj.nil
       replace hB := hB.inS hc17 inNil
       have hSz := hS
       replace hS := hS.inS hc17 inNil
       have Gz3 := low1 (Nat.le_trans hSz.size G18)
       replace G18 := Nat.le_trans hZ G18
       replace hZ := Nat.le_trans hZ hc17.size
       refine wS_end (by kernel_rfl) ?_
       refine eX_KH hS ?_
       refine wH_all [6] (by rfl) (by kernel_rfl) (by simp) ⟨⟨by kernel_rfl, ?_⟩, trivial⟩
       refine wS_alloc (d := 9) (T := 3) (z := .int .i64 (0)) (by kernel_rfl) (by kernel_rfl) ?_
       intro b12 w21 G19 F25 hc18
       replace F25 : Cl w21 b12 3 [.int .i64 (0)] := F25
       have D44 : Dj fp8 [b12] := Dj.of F17.low (low1 G19)
       have D45 : Dj fp9 [b12] := Dj.of F18.low (low1 G19)
       have D46 : Dj (fp10 ++ fr2) [b12] := Dj.of F19.low (low1 G19)
       have D47 : Dj [b11] [b12] := Dj.of (lt1 F24.lt) (low1 G19)
       replace F17 := F17.chg hc18 Dj.nil
       replace F18 := F18.chg hc18 Dj.nil
       replace F19 := F19.chg hc18 Dj.nil
       replace F24 := F24.chg hc18 notNil
       replace hB := hB.inS hc18 inNil
       have hSz := hS
       replace hS := hS.inS hc18 inNil
       have Gz4 := low1 (Nat.le_trans hSz.size G19)
       replace G19 := Nat.le_trans hZ G19
       replace hZ := Nat.le_trans hZ hc18.size
       refine wS_end (by kernel_rfl) ?_
       refine eX_KH hS ?_
       refine wH_all [8] (by rfl) (by kernel_rfl) (by simp) ⟨⟨by kernel_rfl, ?_⟩, trivial⟩
       refine wS_store (T := 3) (g := b12) (o := 0) (ad := ⟨b12, 0, none⟩) (v := .int .i64 (x5)) (vs := [.int .i64 (x5)]) (by kernel_rfl) (by rfl) sz3 (by rfl) (by rfl) F25 (by simp only [List.length_cons, List.length_nil]; omega) ?_
       intro w22 F26 hc19
       replace F17 := F17.chg hc19 D44
       replace F18 := F18.chg hc19 D45
       replace F19 := F19.chg hc19 D46
       replace F24 := F24.chg hc19 (dj1 D47)
       replace hB := hB.inS hc19 (inLow (low1 G19))
       have hSz := hS
       replace hS := hS.inS hc19 (inLow Gz4)
       replace hZ := Nat.le_trans hZ hc19.size
       replace F26 : Cl w22 b12 3 [.int .i64 (x5)] := F26
       clear F25
       refine wS_end (by kernel_rfl) ?_
       refine eX_KH hS ?_
       refine wH_done (by kernel_rfl) ?_
       refine eX_tail ?_
       refine wS_store (T := 3) (g := b11) (o := 0) (ad := ⟨b11, 0, none⟩) (v := .int .i64 (x6)) (vs := [.int .i64 (x6)]) (by kernel_rfl) (by rfl) sz3 (by rfl) (by rfl) F24 (by simp only [List.length_cons, List.length_nil]; omega) ?_
       intro w23 F27 hc20
       replace F17 := F17.chg hc20 D41
       replace F18 := F18.chg hc20 D42
       replace F19 := F19.chg hc20 D43
       replace F26 := F26.chg hc20 (dj1 (D47).symm)
       replace hB := hB.inS hc20 (inLow (low1 G18))
       replace hZ := Nat.le_trans hZ hc20.size
       replace F27 : Cl w23 b11 3 [.int .i64 (x6)] := F27
       clear F24
       refine wS_end (by rfl) ?_
       have hq : (some ((x5, x6)) : Option (Int × Int)) = some _ := hm
       replace hq := someE hq
       subst hq
       exact eX_J (fun hst => ⟨b12, x5, b11, x6, rfl, Fr.of hst (by kernel_rfl), F17, F18, F19, F26, F27, G19, G18, D44, D45, D46, D47, D41, D42, D43, hB, hZ⟩)
     ·rintro a' w24 ⟨b7, x3, b8, x4, hJ, hF4, F28, F29, F30, F31, F32, G20, G21, D48, D49, D50, D51, D52, D53, D54, hB, hZ⟩
      subst hJ
      refine Fr.goX hF4 (by kernel_rfl) ?_
      refine eX_then ?_
      refine cW_seq ?_
      refine cW_seq ?_
      refine cW_region ?_
      refine wS_pure 3 [(54, .int .i64 (0)), (53, .int .i64 (((l8).length : Int))), (52, .slice A10 (l8).length cap10)] (by kernel_rfl) ?_
      refine wS_end (by rfl) ?_
      refine eX_then ?_
      obtain ⟨r3, hr4, hm⟩ := bindE hm
      have hm3 := hm
      refine cW_cut (fun a' w' => ∃ x7 : Int, ∃ x8 : Int, (x7, x8) = r3 ∧ Fr 129 [(4, .slice A9 (l7).length cap9), (5, .slice A10 (l8).length cap10), (6, .slice A11 (l9).length cap11), (9, .pointer (some ⟨b7, 0, none⟩)), (10, .pointer (some ⟨b8, 0, none⟩))] a' ∧ Ow 5 encIIIII 58 w' fp8 A9 cap9 l7 ∧ Ow 1 encI 3 w' fp9 A10 cap10 l8 ∧ OwR 1 encI 32 2 w' fp10 fr2 A11 cap11 l9 ∧ Cl w' b7 3 [.int .i64 (x7)] ∧ Cl w' b8 3 [.int .i64 (x8)] ∧ Chg [] w0 w' ∧ w0.heap.size ≤ w'.heap.size) ?_ ?_
      ·refine cW_block ?_
       refine cW_loop _ (fun (s4 : Int × Int × Int) a' w' => ∃ x9 : Int, ∃ x10 : Int, ∃ x11 : Int, (x9, x10, x11) = s4 ∧ Fr 129 [(4, .slice A9 (l7).length cap9), (5, .slice A10 (l8).length cap10), (6, .slice A11 (l9).length cap11), (9, .pointer (some ⟨b7, 0, none⟩)), (10, .pointer (some ⟨b8, 0, none⟩)), (52, .slice A10 (l8).length cap10), (53, .int .i64 (((l8).length : Int))), (54, .int .i64 (x9))] a' ∧ Ow 5 encIIIII 58 w' fp8 A9 cap9 l7 ∧ Ow 1 encI 3 w' fp9 A10 cap10 l8 ∧ OwR 1 encI 32 2 w' fp10 fr2 A11 cap11 l9 ∧ Cl w' b7 3 [.int .i64 (x10)] ∧ Cl w' b8 3 [.int .i64 (x11)] ∧ Chg [] w0 w' ∧ w0.heap.size ≤ w'.heap.size) hr4 (fun hst => ⟨0, x3, x4, rfl, Fr.of hst (by kernel_rfl), F28, F29, F30, F31, F32, hB, hZ⟩) ?_
       rintro _ c3 a' w25 ⟨x9, x10, x11, rfl, hF5, F33, F34, F35, F36, F37, hB, hZ⟩ hx6
       refine Fr.goOn hF5 (by kernel_rfl) ?_
       have hm := hx6
       unfold m_impl_NearestJoins_s13 at hm
       refine cW_seq ?_
       refine cW_region ?_
       refine wS_pure 1 [(55, .bool (decide (x9 < (((l8).length : Int)))))] (by kernel_rfl) ?_
       refine wS_end (by rfl) ?_
       refine eX_then ?_
       refine cW_seq ?_
       refine cW_cond (t := decide (x9 < (((l8).length : Int)))) (by kernel_rfl) (fun hb4 => ?_) (fun hb4 => ?_)
       ·have hm := condT hb4 hm
        refine cW_skip ?_
        refine eX_then ?_
        refine cW_seq ?_
        refine cW_block ?_
        refine cW_seq ?_
        refine cW_region ?_
        refine wS_pure 1 [(56, .int .i64 (x9))] (by kernel_rfl) ?_
        obtain ⟨x12, hx7, hm⟩ := bindE hm
        refine wS_idx (d := 57) (T := 60) (A := A10) (n := (l8).length) (cap := cap10) (kd := .i64) (m := x9) (by kernel_rfl) sl60 ((F34.sl encI_ok).is hx7) ?_
        refine wS_load1 (d := 58) (T := 3) (ad := (elA A10 1 (x9) 0)) (v := .int .i64 (x12)) (by kernel_rfl) vt3 (Sl.cell (F34.sl encI_ok) hx7 0 (by rfl)) ?_
        refine wS_pure 2 [(12, .int .i64 (x12)), (11, .int .i64 (x9))] (by kernel_rfl) ?_
        refine wS_end (by rfl) ?_
        refine eX_then ?_
        refine cW_seq ?_
        refine cW_region ?_
        refine wS_pure 3 [(61, .int .i64 (wr (x9 + 1))), (60, .int .i64 (x9)), (59, .slice A10 (l8).length cap10)] (by kernel_rfl) ?_
        obtain ⟨y3, hy3, hm⟩ := bindE hm
        refine wS_cutA (enc := encI) (l := l8) (d := 62) (T := 60) (A := A10) (cap := cap10) (vlo := some (.int .i64 (wr (x9 + 1)))) (vhi := none) (lo := wr (x9 + 1)) (hi := ((l8).length : Int)) (n := 0) (by kernel_rfl) sl60 (Or.inl rfl) (Or.inr ⟨rfl, rfl⟩) (F34.sl encI_ok) F34.cap_le hy3 ?_
        intro A12 cap12 hA1 F38 hcap1
        obtain rfl := slci_slc hy3
        have hlv1 := Eq.refl (l8).length
        have hcz1 := F34.cap_le
        refine wS_pure 2 [(64, .int .i64 (0)), (63, .int .i64 (((slc l8 (wr (x9 + 1)) (((l8).length : Int))).length : Int)))] (by kernel_rfl) ?_
        refine wS_end (by rfl) ?_
        refine eX_then ?_
        obtain ⟨r4, hr5, hm⟩ := bindE hm
        have hm4 := hm
        refine cW_cut (fun a' w' => ∃ x13 : Int, ∃ x14 : Int, (x13, x14) = r4 ∧ Fr 129 [(4, .slice A9 (l7).length cap9), (5, .slice A10 (l8).length cap10), (6, .slice A11 (l9).length cap11), (9, .pointer (some ⟨b7, 0, none⟩)), (10, .pointer (some ⟨b8, 0, none⟩)), (52, .slice A10 (l8).length cap10), (53, .int .i64 (((l8).length : Int))), (54, .int .i64 (x9))] a' ∧ Ow 5 encIIIII 58 w' fp8 A9 cap9 l7 ∧ Ow 1 encI 3 w' fp9 A10 cap10 l8 ∧ OwR 1 encI 32 2 w' fp10 fr2 A11 cap11 l9 ∧ Cl w' b7 3 [.int .i64 (x13)] ∧ Cl w' b8 3 [.int .i64 (x14)] ∧ Chg [] w0 w' ∧ w0.heap.size ≤ w'.heap.size) ?_ ?_
        ·refine cW_block ?_
         refine cW_loop _ (fun (s5 : Int × Int × Int) a' w' => ∃ x15 : Int, ∃ x16 : Int, ∃ x17 : Int, (x15, x16, x17) = s5 ∧ Fr 129 [(4, .slice A9 (l7).length cap9), (5, .slice A10 (l8).length cap10), (6, .slice A11 (l9).length cap11), (9, .pointer (some ⟨b7, 0, none⟩)), (10, .pointer (some ⟨b8, 0, none⟩)), (12, .int .i64 (x12)), (52, .slice A10 (l8).length cap10), (53, .int .i64 (((l8).length : Int))), (54, .int .i64 (x9)), (62, .slice A12 (slc l8 (wr (x9 + 1)) (((l8).length : Int))).length cap12), (63, .int .i64 (((slc l8 (wr (x9 + 1)) (((l8).length : Int))).length : Int))), (64, .int .i64 (x15))] a' ∧ Ow 5 encIIIII 58 w' fp8 A9 cap9 l7 ∧ Ow 1 encI 3 w' fp9 A10 cap10 l8 ∧ OwR 1 encI 32 2 w' fp10 fr2 A11 cap11 l9 ∧ Cl w' b7 3 [.int .i64 (x16)] ∧ Cl w' b8 3 [.int .i64 (x17)] ∧ Sl 1 encI w' fp9 A12 (slc l8 (wr (x9 + 1)) (((l8).length : Int))) ∧ Chg [] w0 w' ∧ w0.heap.size ≤ w'.heap.size) hr5 (fun hst => ⟨0, x10, x11, rfl, Fr.of hst (by kernel_rfl), F33, F34, F35, F36, F37, F38, hB, hZ⟩) ?_
         rintro _ c4 a' w26 ⟨x15, x16, x17, rfl, hF6, F39, F40, F41, F42, F43, F44, hB, hZ⟩ hx8
         refine Fr.goOn hF6 (by kernel_rfl) ?_
         have hm := hx8
         unfold m_impl_NearestJoins_s14 at hm
         refine cW_seq ?_
         refine cW_region ?_
         refine wS_pure 1 [(65, .bool (decide (x15 < (((slc l8 (wr (x9 + 1)) (((l8).length : Int))).length : Int)))))] (by kernel_rfl) ?_
         refine wS_end (by rfl) ?_
         refine eX_then ?_
         refine cW_seq ?_
         refine cW_cond (t := decide (x15 < (((slc l8 (wr (x9 + 1)) (((l8).length : Int))).length : Int)))) (by kernel_rfl) (fun hb5 => ?_) (fun hb5 => ?_)
         ·have hm := condT hb5 hm
          refine cW_skip ?_
          refine eX_then ?_
          refine cW_seq ?_
          refine cW_block ?_
          obtain ⟨s6, hs2, hm⟩ := bindE hm
          refine cW_cut (fun a' w' => ∃ x18 : Int, ∃ x19 : Int, (x18, x19) = s6 ∧ Fr 129 [(4, .slice A9 (l7).length cap9), (5, .slice A10 (l8).length cap10), (6, .slice A11 (l9).length cap11), (9, .pointer (some ⟨b7, 0, none⟩)), (10, .pointer (some ⟨b8, 0, none⟩)), (12, .int .i64 (x12)), (52, .slice A10 (l8).length cap10), (53, .int .i64 (((l8).length : Int))), (54, .int .i64 (x9)), (62, .slice A12 (slc l8 (wr (x9 + 1)) (((l8).length : Int))).length cap12), (63, .int .i64 (((slc l8 (wr (x9 + 1)) (((l8).length : Int))).length : Int))), (64, .int .i64 (x15))] a' ∧ Ow 5 encIIIII 58 w' fp8 A9 cap9 l7 ∧ Ow 1 encI 3 w' fp9 A10 cap10 l8 ∧ OwR 1 encI 32 2 w' fp10 fr2 A11 cap11 l9 ∧ Cl w' b7 3 [.int .i64 (x18)] ∧ Cl w' b8 3 [.int .i64 (x19)] ∧ Sl 1 encI w' fp9 A12 (slc l8 (wr (x9 + 1)) (((l8).length : Int))) ∧ Chg [] w0 w' ∧ w0.heap.size ≤ w'.heap.size) ?_ ?_
          ·have hm := hs2
           refine cW_seq ?_
           refine cW_region ?_
           obtain ⟨x20, hx9, hm⟩ := bindE hm
           refine wS_idx (d := 66) (T := 60) (A := A12) (n := (slc l8 (wr (x9 + 1)) (((l8).length : Int))).length) (cap := cap12) (kd := .i64) (m := x15) (by kernel_rfl) sl60 (F44.is hx9) ?_
           refine wS_load1 (d := 67) (T := 3) (ad := (elA A12 1 (x15) 0)) (v := .int .i64 (x20)) (by kernel_rfl) vt3 (Sl.cell F44 hx9 0 (by rfl)) ?_
           refine wS_pure 1 [(14, .int .i64 (x20))] (by kernel_rfl) ?_
           refine wS_end (by rfl) ?_
           refine eX_then ?_
           refine cW_seq ?_
           refine cW_drawnTail [] 21 (by kernel_rfl) (by kernel_rfl) (fun w27 hc21 => ?_)
           replace F39 := F39.chg hc21 Dj.nil
           replace F40 := F40.chg hc21 Dj.nil
           replace F41 := F41.chg hc21 Dj.nil
           replace F42 := F42.chg hc21 notNil
           replace F43 := F43.chg hc21 notNil
           replace F44 := F44.chg hc21 Dj.nil
           replace hB := hB.inS hc21 inNil
           replace hZ := Nat.le_trans hZ hc21.size
           have hS := Chg.refl [] w27
           have Z4 := F39
           have Z5 := F40
           have Z6 := F41
           have Z7 := F42
           have Z8 := F43
           have Z9 := F44
           refine wH_take [0, 1] [1, 0] [(69, .int .i64 (x12)), (68, .slice A9 (l7).length cap9)] (by kernel_rfl) (qT (qT (qT (qB (qT (qL (qB (qT (qB (qT (qL (qB (qT (qT (qB (qL (qB (qT (qT qZ))))))))))))))))))) (by kernel_rfl) ?_
           obtain ⟨x21, hx10, hm⟩ := bindE hm
           refine wH_idx (i := 2) (d := 70) (T := 51) (A := A9) (n := (l7).length) (cap := cap9) (kd := .i64) (m := x12) (by kernel_rfl) (qT (qT (qT (qB (qT (qL (qB (qT (qB (qT (qL (qB (qT (qT (qB (qL (qB (qT (qT qZ))))))))))))))))))) (by kernel_rfl) (by kernel_rfl) sl51 ((F39.sl encIIIII_ok).is hx10) ?_
           refine wH_take [3] [3, 2, 1, 0] [(71, .pointer (some (elA A9 5 (x12) 0)))] (by kernel_rfl) (qT (qT (qT (qB (qT (qL (qB (qT (qB (qT (qL (qB (qT (qT (qB (qL (qB (qT (qT qZ))))))))))))))))))) (by kernel_rfl) ?_
           refine wH_loadA (i := 4) (d := 72) (T := 55) (ad := (elA A9 5 (x12) 0)) (vs := [.int .i64 (x21.1), .int .i64 (x21.2.1), .int .i64 (x21.2.2.1), .int .i64 (x21.2.2.2.1)]) (by kernel_rfl) (qT (qT (qT (qB (qT (qL (qB (qT (qB (qT (qL (qB (qT (qT (qB (qL (qB (qT (qT qZ))))))))))))))))))) (by kernel_rfl) (by kernel_rfl) vt55 (fun W hW i u hu => Sl.cells_at ((Z4.chg hW Dj.nil).sl encIIIII_ok) hx10 0 hu (by rfl)) ?_
           refine wH_take [5, 6] [6, 5, 4, 3, 2, 1, 0] [(74, .int .i64 (x20)), (73, .slice A9 (l7).length cap9)] (by kernel_rfl) (qT (qT (qT (qB (qT (qL (qB (qT (qB (qT (qL (qB (qT (qT (qB (qL (qB (qT (qT qZ))))))))))))))))))) (by kernel_rfl) ?_
           obtain ⟨x22, hx11, hm⟩ := bindE hm
           refine wH_idx (i := 7) (d := 75) (T := 51) (A := A9) (n := (l7).length) (cap := cap9) (kd := .i64) (m := x20) (by kernel_rfl) (qT (qT (qT (qB (qT (qL (qB (qT (qB (qT (qL (qB (qT (qT (qB (qL (qB (qT (qT qZ))))))))))))))))))) (by kernel_rfl) (by kernel_rfl) sl51 ((F39.sl encIIIII_ok).is hx11) ?_
           refine wH_take [8] [8, 7, 6, 5, 4, 3, 2, 1, 0] [(76, .pointer (some (elA A9 5 (x20) 0)))] (by kernel_rfl) (qT (qT (qT (qB (qT (qL (qB (qT (qB (qT (qL (qB (qT (qT (qB (qL (qB (qT (qT qZ))))))))))))))))))) (by kernel_rfl) ?_
           refine wH_loadA (i := 9) (d := 77) (T := 55) (ad := (elA A9 5 (x20) 0)) (vs := [.int .i64 (x22.1), .int .i64 (x22.2.1), .int .i64 (x22.2.2.1), .int .i64 (x22.2.2.2.1)]) (by kernel_rfl) (qT (qT (qT (qB (qT (qL (qB (qT (qB (qT (qL (qB (qT (qT (qB (qL (qB (qT (qT qZ))))))))))))))))))) (by kernel_rfl) (by kernel_rfl) vt55 (fun W hW i u hu => Sl.cells_at ((Z4.chg hW Dj.nil).sl encIIIII_ok) hx11 0 hu (by rfl)) ?_
           refine wH_take [11] [11, 9, 8, 7, 6, 5, 4, 3, 2, 1, 0] [(79, .slice A9 (l7).length cap9)] (by kernel_rfl) (qT (qT (qT (qB (qT (qL (qB (qT (qB (qT (qL (qB (qT (qT (qB (qL (qB (qT (qT qZ))))))))))))))))))) (by kernel_rfl) ?_
           refine wH_load1 (i := 12) (d := 80) (T := 3) (ad := ⟨b7, 0, none⟩) (v := .int .i64 (x16)) (by kernel_rfl) (qT (qT (qT (qB (qT (qL (qB (qT (qB (qT (qL (qB (qT (qT (qB (qL (qB (qT (qT qZ))))))))))))))))))) (by kernel_rfl) (by kernel_rfl) vt3 (fun W hW => (Z7.chg hW notNil).cell 0) ?_
           obtain ⟨x23, hx12, hm⟩ := bindE hm
           refine wH_idx (i := 13) (d := 81) (T := 51) (A := A9) (n := (l7).length) (cap := cap9) (kd := .i64) (m := x16) (by kernel_rfl) (qT (qT (qT (qB (qT (qL (qB (qT (qB (qT (qL (qB (qT (qT (qB (qL (qB (qT (qT qZ))))))))))))))))))) (by kernel_rfl) (by kernel_rfl) sl51 ((F39.sl encIIIII_ok).is hx12) ?_
           refine wH_take [14] [14, 13, 12, 11, 9, 8, 7, 6, 5, 4, 3, 2, 1, 0] [(82, .pointer (some (elA A9 5 (x16) 0)))] (by kernel_rfl) (qT (qT (qT (qB (qT (qL (qB (qT (qB (qT (qL (qB (qT (qT (qB (qL (qB (qT (qT qZ))))))))))))))))))) (by kernel_rfl) ?_
           refine wH_loadA (i := 15) (d := 83) (T := 55) (ad := (elA A9 5 (x16) 0)) (vs := [.int .i64 (x23.1), .int .i64 (x23.2.1), .int .i64 (x23.2.2.1), .int .i64 (x23.2.2.2.1)]) (by kernel_rfl) (qT (qT (qT (qB (qT (qL (qB (qT (qB (qT (qL (qB (qT (qT (qB (qL (qB (qT (qT qZ))))))))))))))))))) (by kernel_rfl) (by kernel_rfl) vt55 (fun W hW i u hu => Sl.cells_at ((Z4.chg hW Dj.nil).sl encIIIII_ok) hx12 0 hu (by rfl)) ?_
           refine wH_take [16] [16, 15, 14, 13, 12, 11, 9, 8, 7, 6, 5, 4, 3, 2, 1, 0] [(84, .slice A9 (l7).length cap9)] (by kernel_rfl) (qT (qT (qT (qB (qT (qL (qB (qT (qB (qT (qL (qB (qT (qT (qB (qL (qB (qT (qT qZ))))))))))))))))))) (by kernel_rfl) ?_
           refine wH_load1 (i := 17) (d := 85) (T := 3) (ad := ⟨b8, 0, none⟩) (v := .int .i64 (x17)) (by kernel_rfl) (qT (qT (qT (qB (qT (qL (qB (qT (qB (qT (qL (qB (qT (qT (qB (qL (qB (qT (qT qZ))))))))))))))))))) (by kernel_rfl) (by kernel_rfl) vt3 (fun W hW => (Z8.chg hW notNil).cell 0) ?_
           obtain ⟨x24, hx13, hm⟩ := bindE hm
           refine wH_idx (i := 18) (d := 86) (T := 51) (A := A9) (n := (l7).length) (cap := cap9) (kd := .i64) (m := x17) (by kernel_rfl) (qT (qT (qT (qB (qT (qL (qB (qT (qB (qT (qL (qB (qT (qT (qB (qL (qB (qT (qT qZ))))))))))))))))))) (by kernel_rfl) (by kernel_rfl) sl51 ((F39.sl encIIIII_ok).is hx13) ?_
           refine wH_take [19] [19, 18, 17, 16, 15, 14, 13, 12, 11, 9, 8, 7, 6, 5, 4, 3, 2, 1, 0] [(87, .pointer (some (elA A9 5 (x17) 0)))] (by kernel_rfl) (qT (qT (qT (qB (qT (qL (qB (qT (qB (qT (qL (qB (qT (qT (qB (qL (qB (qT (qT qZ))))))))))))))))))) (by kernel_rfl) ?_
           refine wH_loadA (i := 20) (d := 88) (T := 55) (ad := (elA A9 5 (x17) 0)) (vs := [.int .i64 (x24.1), .int .i64 (x24.2.1), .int .i64 (x24.2.2.1), .int .i64 (x24.2.2.2.1)]) (by kernel_rfl) (qT (qT (qT (qB (qT (qL (qB (qT (qB (qT (qL (qB (qT (qT (qB (qL (qB (qT (qT qZ))))))))))))))))))) (by kernel_rfl) (by kernel_rfl) vt55 (fun W hW i u hu => Sl.cells_at ((Z4.chg hW Dj.nil).sl encIIIII_ok) hx13 0 hu (by rfl)) ?_
           refine wH_all [10] (by rfl) (by kernel_rfl) (by simp) ⟨⟨by kernel_rfl, ?_⟩, trivial⟩
           obtain ⟨y4, hy4, hm⟩ := bindE hm
           refine wS_calls (d := 78) (f := 26) (vs := [.agg #[.int .i64 (x21.1), .int .i64 (x21.2.1), .int .i64 (x21.2.2.1), .int .i64 (x21.2.2.2.1)], .agg #[.int .i64 (x22.1), .int .i64 (x22.2.1), .int .i64 (x22.2.2.1), .int .i64 (x22.2.2.2.1)]]) (by kernel_rfl) ent26 (c_impl_Region_far hy4) ?_
           rintro _ w28 ⟨rfl, hc22⟩
           replace F39 := F39.chg hc22 Dj.nil
           replace F40 := F40.chg hc22 Dj.nil
           replace F41 := F41.chg hc22 Dj.nil
           replace F42 := F42.chg hc22 notNil
           replace F43 := F43.chg hc22 notNil
           replace F44 := F44.chg hc22 Dj.nil
           replace hB := hB.inS hc22 inNil
           have hSz := hS
           replace hS := hS.inS hc22 inNil
           replace hZ := Nat.le_trans hZ hc22.size
           refine ⟨.int .i64 (y4), rfl, ?_⟩
           refine wS_end (by kernel_rfl) ?_
           refine eX_KH hS ?_
           refine wH_done (by kernel_rfl) ?_
           refine eX_tail ?_
           obtain ⟨y5, hy5, hm⟩ := bindE hm
           refine wS_calls (d := 89) (f := 26) (vs := [.agg #[.int .i64 (x23.1), .int .i64 (x23.2.1), .int .i64 (x23.2.2.1), .int .i64 (x23.2.2.2.1)], .agg #[.int .i64 (x24.1), .int .i64 (x24.2.1), .int .i64 (x24.2.2.1), .int .i64 (x24.2.2.2.1)]]) (by kernel_rfl) ent26 (c_impl_Region_far hy5) ?_
           rintro _ w29 ⟨rfl, hc23⟩
           replace F39 := F39.chg hc23 Dj.nil
           replace F40 := F40.chg hc23 Dj.nil
           replace F41 := F41.chg hc23 Dj.nil
           replace F42 := F42.chg hc23 notNil
           replace F43 := F43.chg hc23 notNil
           replace F44 := F44.chg hc23 Dj.nil
           replace hB := hB.inS hc23 inNil
           replace hZ := Nat.le_trans hZ hc23.size
           refine ⟨.int .i64 (y5), rfl, ?_⟩
           refine wS_pure 1 [(90, .bool (decide (y4 < y5)))] (by kernel_rfl) ?_
           refine wS_end (by rfl) ?_
           refine eX_then ?_
           refine cW_prune [(4, .slice A9 (l7).length cap9), (5, .slice A10 (l8).length cap10), (6, .slice A11 (l9).length cap11), (9, .pointer (some ⟨b7, 0, none⟩)), (10, .pointer (some ⟨b8, 0, none⟩)), (12, .int .i64 (x12)), (14, .int .i64 (x20)), (52, .slice A10 (l8).length cap10), (53, .int .i64 (((l8).length : Int))), (54, .int .i64 (x9)), (62, .slice A12 (slc l8 (wr (x9 + 1)) (((l8).length : Int))).length cap12), (63, .int .i64 (((slc l8 (wr (x9 + 1)) (((l8).length : Int))).length : Int))), (64, .int .i64 (x15)), (90, .bool (decide (y4 < y5)))] (by kernel_rfl) (by kernel_rfl) (fun a1 => ?_)
           refine cW_cond (t := decide (y4 < y5)) (by kernel_rfl) (fun hb6 => ?_) (fun hb6 => ?_)
           ·have hm := condT hb6 hm
            refine cW_region ?_
            refine wS_pure 2 [(92, .int .i64 (x20)), (91, .int .i64 (x12))] (by kernel_rfl) ?_
            refine wS_store (T := 3) (g := b7) (o := 0) (ad := ⟨b7, 0, none⟩) (v := .int .i64 (x12)) (vs := [.int .i64 (x12)]) (by kernel_rfl) (by rfl) sz3 (by rfl) (by rfl) F42 (by simp only [List.length_cons, List.length_nil]; omega) ?_
            intro w30 F45 hc24
            replace F39 := F39.chg hc24 D48
            replace F40 := F40.chg hc24 D49
            replace F41 := F41.chg hc24 D50
            replace F43 := F43.chg hc24 (dj1 D51)
            replace F44 := F44.chg hc24 D49
            replace hB := hB.inS hc24 (inLow (low1 G20))
            replace hZ := Nat.le_trans hZ hc24.size
            replace F45 : Cl w30 b7 3 [.int .i64 (x12)] := F45
            clear F42
            refine wS_store (T := 3) (g := b8) (o := 0) (ad := ⟨b8, 0, none⟩) (v := .int .i64 (x20)) (vs := [.int .i64 (x20)]) (by kernel_rfl) (by rfl) sz3 (by rfl) (by rfl) F43 (by simp only [List.length_cons, List.length_nil]; omega) ?_
            intro w31 F46 hc25
            replace F39 := F39.chg hc25 D52
            replace F40 := F40.chg hc25 D53
            replace F41 := F41.chg hc25 D54
            replace F45 := F45.chg hc25 (dj1 (D51).symm)
            replace F44 := F44.chg hc25 D53
            replace hB := hB.inS hc25 (inLow (low1 G21))
            replace hZ := Nat.le_trans hZ hc25.size
            replace F46 : Cl w31 b8 3 [.int .i64 (x20)] := F46
            clear F43
            refine wS_end (by rfl) ?_
            have hq : (some ((x12, x20)) : Option (Int × Int)) = some _ := hm
            replace hq := someE hq
            subst hq
            exact eX_J (fun hst => ⟨x12, x20, rfl, Fr.of hst (by kernel_rfl), F39, F40, F41, F45, F46, F44, hB, hZ⟩)
           ·have hm := condF hb6 hm
            refine cW_skip ?_
            have hq : (some ((x16, x17)) : Option (Int × Int)) = some _ := hm
            replace hq := someE hq
            subst hq
            exact eX_J (fun hst => ⟨x16, x17, rfl, Fr.of hst (by kernel_rfl), F39, F40, F41, F42, F43, F44, hB, hZ⟩)
          ·rintro a' w32 ⟨x18, x19, hJ, hF7, F47, F48, F49, F50, F51, F52, hB, hZ⟩
           subst hJ
           refine Fr.goX hF7 (by kernel_rfl) ?_
           refine eX_block ?_
           refine eX_then ?_
           refine cW_region ?_
           refine wS_pure 2 [(64, .int .i64 (wr (x15 + 1))), (93, .int .i64 (wr (x15 + 1)))] (by kernel_rfl) ?_
           refine wS_end (by rfl) ?_
           have hq : (some (Ctl.next ((wr (x15 + 1), x18, x19))) : Option (Ctl (Int × Int × Int) (Int × Int))) = some _ := hm
           replace hq := someE hq
           subst hq
           exact eX_next hx8 (fun hst => ⟨wr (x15 + 1), x18, x19, rfl, Fr.of hst (by kernel_rfl), F47, F48, F49, F50, F51, F52, hB, hZ⟩)
         ·have hm := condF hb5 hm
          refine cW_exit ?_
          refine eX_then_exit ?_
          have hq : (some (Ctl.out ((x16, x17))) : Option (Ctl (Int × Int × Int) (Int × Int))) = some _ := hm
          replace hq := someE hq
          subst hq
          refine eX_outX hx8 (fun hr6 => ?_)
          replace hr6 := hr6.symm
          subst hr6
          refine eX_block_hit ?_
          exact eX_J (fun hst => ⟨x16, x17, rfl, Fr.of hst (by kernel_rfl), F39, F40, F41, F42, F43, hB, hZ⟩)
        ·rintro a' w33 ⟨x13, x14, hJ, hF8, F53, F54, F55, F56, F57, hB, hZ⟩
         subst hJ
         refine Fr.goX hF8 (by kernel_rfl) ?_
         refine eX_block ?_
         refine eX_then ?_
         refine cW_region ?_
         refine wS_pure 2 [(54, .int .i64 (wr (x9 + 1))), (94, .int .i64 (wr (x9 + 1)))] (by kernel_rfl) ?_
         refine wS_end (by rfl) ?_
         have hq : (some (Ctl.next ((wr (x9 + 1), x13, x14))) : Option (Ctl (Int × Int × Int) (Int × Int))) = some _ := hm
         replace hq := someE hq
         subst hq
         exact eX_next hx6 (fun hst => ⟨wr (x9 + 1), x13, x14, rfl, Fr.of hst (by kernel_rfl), F53, F54, F55, F56, F57, hB, hZ⟩)
       ·have hm := condF hb4 hm
        refine cW_exit ?_
        refine eX_then_exit ?_
        have hq : (some (Ctl.out ((x10, x11))) : Option (Ctl (Int × Int × Int) (Int × Int))) = some _ := hm
        replace hq := someE hq
        subst hq
        refine eX_outX hx6 (fun hr7 => ?_)
        replace hr7 := hr7.symm
        subst hr7
        refine eX_block_hit ?_
        exact eX_J (fun hst => ⟨x10, x11, rfl, Fr.of hst (by kernel_rfl), F33, F34, F35, F36, F37, hB, hZ⟩)
      ·rintro a' w34 ⟨x7, x8, hJ, hF9, F58, F59, F60, F61, F62, hB, hZ⟩
       subst hJ
       refine Fr.goX hF9 (by kernel_rfl) ?_
       refine eX_then ?_
       refine cW_seq ?_
       obtain ⟨s7, hs3, hm⟩ := bindE hm
       refine cW_cut (fun a' w' => ∃ b13 : Nat, ∃ x25 : Int, ∃ x26 : Int, ∃ x27 : Int, ∃ x28 : Int, ∃ x29 : Int, ∃ x30 : Bool, (x25, x26, x27, x28, x29, x30) = s7 ∧ Fr 129 [(4, .slice A9 (l7).length cap9), (5, .slice A10 (l8).length cap10), (6, .slice A11 (l9).length cap11), (9, .pointer (some ⟨b7, 0, none⟩)), (10, .pointer (some ⟨b8, 0, none⟩)), (15, .pointer (some ⟨b13, 0, none⟩)), (18, .bool (x30))] a' ∧ Ow 5 encIIIII 58 w' fp8 A9 cap9 l7 ∧ Ow 1 encI 3 w' fp9 A10 cap10 l8 ∧ OwR 1 encI 32 2 w' fp10 fr2 A11 cap11 l9 ∧ Cl w' b7 3 [.int .i64 (x7)] ∧ Cl w' b8 3 [.int .i64 (x8)] ∧ Cl w' b13 58 [.int .i64 (x25), .int .i64 (x26), .int .i64 (x27), .int .i64 (x28), .int .i64 (x29)] ∧ w0.heap.size ≤ b13 ∧ Dj fp8 [b13] ∧ Dj fp9 [b13] ∧ Dj (fp10 ++ fr2) [b13] ∧ Dj [b7] [b13] ∧ Dj [b8] [b13] ∧ Chg [] w0 w' ∧ w0.heap.size ≤ w'.heap.size) ?_ ?_
       ·have hm := hs3
        refine cW_drawnTail [] 18 (by kernel_rfl) (by kernel_rfl) (fun w35 hc26 => ?_)
        replace F58 := F58.chg hc26 Dj.nil
        replace F59 := F59.chg hc26 Dj.nil
        replace F60 := F60.chg hc26 Dj.nil
        replace F61 := F61.chg hc26 notNil
        replace F62 := F62.chg hc26 notNil
        replace hB := hB.inS hc26 inNil
        replace hZ := Nat.le_trans hZ hc26.size
        have hS := Chg.refl [] w35
        have Z10 := F58
        have Z11 := F59
        have Z12 := F60
        have Z13 := F61
        have Z14 := F62
        refine wH_take [0] [0] [(96, .slice A9 (l7).length cap9)] (by kernel_rfl) (qT (qT (qT (qB (qL (qB (qT (qT qZ)))))))) (by kernel_rfl) ?_
        refine wH_load1 (i := 1) (d := 97) (T := 3) (ad := ⟨b7, 0, none⟩) (v := .int .i64 (x7)) (by kernel_rfl) (qT (qT (qT (qB (qL (qB (qT (qT qZ)))))))) (by kernel_rfl) (by kernel_rfl) vt3 (fun W hW => (Z13.chg hW notNil).cell 0) ?_
        obtain ⟨x31, hx14, hm⟩ := bindE hm
        refine wH_idx (i := 2) (d := 98) (T := 51) (A := A9) (n := (l7).length) (cap := cap9) (kd := .i64) (m := x7) (by kernel_rfl) (qT (qT (qT (qB (qL (qB (qT (qT qZ)))))))) (by kernel_rfl) (by kernel_rfl) sl51 ((F58.sl encIIIII_ok).is hx14) ?_
        refine wH_loadA (i := 3) (d := 99) (T := 58) (ad := (elA A9 5 (x7) 0)) (vs := [.int .i64 (x31.1), .int .i64 (x31.2.1), .int .i64 (x31.2.2.1), .int .i64 (x31.2.2.2.1), .int .i64 (x31.2.2.2.2)]) (by kernel_rfl) (qT (qT (qT (qB (qL (qB (qT (qT qZ)))))))) (by kernel_rfl) (by kernel_rfl) vt58 (fun W hW i u hu => Sl.cells_at ((Z10.chg hW Dj.nil).sl encIIIII_ok) hx14 0 hu (by rfl)) ?_
        refine wH_take [4] [4, 3, 2, 1, 0] [(100, .slice A9 (l7).length cap9)] (by kernel_rfl) (qT (qT (qT (qB (qL (qB (qT (qT qZ)))))))) (by kernel_rfl) ?_
        refine wH_load1 (i := 5) (d := 101) (T := 3) (ad := ⟨b8, 0, none⟩) (v := .int .i64 (x8)) (by kernel_rfl) (qT (qT (qT (qB (qL (qB (qT (qT qZ)))))))) (by kernel_rfl) (by kernel_rfl) vt3 (fun W hW => (Z14.chg hW notNil).cell 0) ?_
        obtain ⟨x32, hx15, hm⟩ := bindE hm
        refine wH_idx (i := 6) (d := 102) (T := 51) (A := A9) (n := (l7).length) (cap := cap9) (kd := .i64) (m := x8) (by kernel_rfl) (qT (qT (qT (qB (qL (qB (qT (qT qZ)))))))) (by kernel_rfl) (by kernel_rfl) sl51 ((F58.sl encIIIII_ok).is hx15) ?_
        refine wH_loadA (i := 7) (d := 103) (T := 58) (ad := (elA A9 5 (x8) 0)) (vs := [.int .i64 (x32.1), .int .i64 (x32.2.1), .int .i64 (x32.2.2.1), .int .i64 (x32.2.2.2.1), .int .i64 (x32.2.2.2.2)]) (by kernel_rfl) (qT (qT (qT (qB (qL (qB (qT (qT qZ)))))))) (by kernel_rfl) (by kernel_rfl) vt58 (fun W hW i u hu => Sl.cells_at ((Z10.chg hW Dj.nil).sl encIIIII_ok) hx15 0 hu (by rfl)) ?_
        refine wH_all [8, 14] (by rfl) (by kernel_rfl) (by simp) ⟨⟨by kernel_rfl, ?_⟩, ⟨by kernel_rfl, ?_⟩, trivial⟩
        ·skip
         obtain ⟨y6, hy6, hm⟩ := bindE hm
         refine wS_calls (d := 104) (f := 27) (vs := [.agg #[.int .i64 (x31.1), .int .i64 (x31.2.1), .int .i64 (x31.2.2.1), .int .i64 (x31.2.2.2.1), .int .i64 (x31.2.2.2.2)], .agg #[.int .i64 (x32.1), .int .i64 (x32.2.1), .int .i64 (x32.2.2.1), .int .i64 (x32.2.2.2.1), .int .i64 (x32.2.2.2.2)]]) (by kernel_rfl) ent27 (c_impl_merge hy6) ?_
         rintro _ w36 ⟨rfl, hc27⟩
         replace F58 := F58.chg hc27 Dj.nil
         replace F59 := F59.chg hc27 Dj.nil
         replace F60 := F60.chg hc27 Dj.nil
         replace F61 := F61.chg hc27 notNil
         replace F62 := F62.chg hc27 notNil
         replace hB := hB.inS hc27 inNil
         have hSz := hS
         replace hS := hS.inS hc27 inNil
         replace hZ := Nat.le_trans hZ hc27.size
         refine ⟨.tuple #[.agg #[.int .i64 (y6.1.1), .int .i64 (y6.1.2.1), .int .i64 (y6.1.2.2.1), .int .i64 (y6.1.2.2.2.1), .int .i64 (y6.1.2.2.2.2)], .int .i64 (y6.2.1), .int .i64 (y6.2.2.1), .bool (y6.2.2.2)], rfl, ?_⟩
         refine wS_end (by kernel_rfl) ?_
         refine eX_KH hS ?_
         refine wH_take [9, 10, 11, 12, 13] [13, 12, 11, 10, 9, 8, 7, 6, 5, 4, 3, 2, 1, 0] [(108, .bool (y6.2.2.2)), (107, .int .i64 (y6.2.2.1)), (106, .int .i64 (y6.2.1)), (105, .agg #[.int .i64 (y6.1.1), .int .i64 (y6.1.2.1), .int .i64 (y6.1.2.2.1), .int .i64 (y6.1.2.2.2.1), .int .i64 (y6.1.2.2.2.2)]), (95, .tuple #[.agg #[.int .i64 (y6.1.1), .int .i64 (y6.1.2.1), .int .i64 (y6.1.2.2.1), .int .i64 (y6.1.2.2.2.1), .int .i64 (y6.1.2.2.2.2)], .int .i64 (y6.2.1), .int .i64 (y6.2.2.1), .bool (y6.2.2.2)])] (by kernel_rfl) (qT (qT (qT (qB (qL (qB (qT (qT qZ)))))))) (by kernel_rfl) ?_
         refine wH_all [14] (by rfl) (by kernel_rfl) (by simp) ⟨⟨by kernel_rfl, ?_⟩, trivial⟩
         refine wS_alloc (d := 15) (T := 58) (z := .agg #[.int .i64 (0), .int .i64 (0), .int .i64 (0), .int .i64 (0), .int .i64 (0)]) (by kernel_rfl) (by kernel_rfl) ?_
         intro b14 w37 G22 F63 hc28
         replace F63 : Cl w37 b14 58 [.int .i64 (0), .int .i64 (0), .int .i64 (0), .int .i64 (0), .int .i64 (0)] := F63
         have D55 : Dj fp8 [b14] := Dj.of F58.low (low1 G22)
         have D56 : Dj fp9 [b14] := Dj.of F59.low (low1 G22)
         have D57 : Dj (fp10 ++ fr2) [b14] := Dj.of F60.low (low1 G22)
         have D58 : Dj [b7] [b14] := Dj.of (lt1 F61.lt) (low1 G22)
         have D59 : Dj [b8] [b14] := Dj.of (lt1 F62.lt) (low1 G22)
         replace F58 := F58.chg hc28 Dj.nil
         replace F59 := F59.chg hc28 Dj.nil
         replace F60 := F60.chg hc28 Dj.nil
         replace F61 := F61.chg hc28 notNil
         replace F62 := F62.chg hc28 notNil
         replace hB := hB.inS hc28 inNil
         have hSz := hS
         replace hS := hS.inS hc28 inNil
         have Gz5 := low1 (Nat.le_trans hSz.size G22)
         replace G22 := Nat.le_trans hZ G22
         replace hZ := Nat.le_trans hZ hc28.size
         refine wS_end (by kernel_rfl) ?_
         refine eX_KH hS ?_
         refine wH_all [15] (by rfl) (by kernel_rfl) (by simp) ⟨⟨by kernel_rfl, ?_⟩, trivial⟩
         refine wS_store (T := 58) (g := b14) (o := 0) (ad := ⟨b14, 0, none⟩) (v := .agg #[.int .i64 (y6.1.1), .int .i64 (y6.1.2.1), .int .i64 (y6.1.2.2.1), .int .i64 (y6.1.2.2.2.1), .int .i64 (y6.1.2.2.2.2)]) (vs := [.int .i64 (y6.1.1), .int .i64 (y6.1.2.1), .int .i64 (y6.1.2.2.1), .int .i64 (y6.1.2.2.2.1), .int .i64 (y6.1.2.2.2.2)]) (by kernel_rfl) (by rfl) sz58 (by rfl) (by rfl) F63 (by simp only [List.length_cons, List.length_nil]; omega) ?_
         intro w38 F64 hc29
         replace F58 := F58.chg hc29 D55
         replace F59 := F59.chg hc29 D56
         replace F60 := F60.chg hc29 D57
         replace F61 := F61.chg hc29 (dj1 D58)
         replace F62 := F62.chg hc29 (dj1 D59)
         replace hB := hB.inS hc29 (inLow (low1 G22))
         have hSz := hS
         replace hS := hS.inS hc29 (inLow Gz5)
         replace hZ := Nat.le_trans hZ hc29.size
         replace F64 : Cl w38 b14 58 [.int .i64 (y6.1.1), .int .i64 (y6.1.2.1), .int .i64 (y6.1.2.2.1), .int .i64 (y6.1.2.2.2.1), .int .i64 (y6.1.2.2.2.2)] := F64
         clear F63
         refine wS_end (by kernel_rfl) ?_
         refine eX_KH hS ?_
         refine wH_take [16, 17] [17, 16, 15, 14, 13, 12, 11, 10, 9, 8, 7, 6, 5, 4, 3, 2, 1, 0] [(17, .int .i64 (y6.2.2.1)), (16, .int .i64 (y6.2.1))] (by kernel_rfl) (qT (qT (qT (qB (qL (qB (qT (qT qZ)))))))) (by kernel_rfl) ?_
         refine wH_done (by kernel_rfl) ?_
         refine eX_tail ?_
         refine wS_pure 1 [(18, .bool (y6.2.2.2))] (by kernel_rfl) ?_
         refine wS_end (by rfl) ?_
         have hq : (some ((y6.1.1, y6.1.2.1, y6.1.2.2.1, y6.1.2.2.2.1, y6.1.2.2.2.2, y6.2.2.2)) : Option (Int × Int × Int × Int × Int × Bool)) = some _ := hm
         replace hq := someE hq
         subst hq
         exact eX_J (fun hst => ⟨b14, y6.1.1, y6.1.2.1, y6.1.2.2.1, y6.1.2.2.2.1, y6.1.2.2.2.2, y6.2.2.2, rfl, Fr.of hst (by kernel_rfl), F58, F59, F60, F61, F62, F64, G22, D55, D56, D57, D58, D59, hB, hZ⟩)
        ·skip
         refine wS_alloc (d := 15) (T := 58) (z := .agg #[.int .i64 (0), .int .i64 (0), .int .i64 (0), .int .i64 (0), .int .i64 (0)]) (by kernel_rfl) (by kernel_rfl) ?_
         intro b15 w39 G23 F65 hc30
         replace F65 : Cl w39 b15 58 [.int .i64 (0), .int .i64 (0), .int .i64 (0), .int .i64 (0), .int .i64 (0)] := F65
         have D60 : Dj fp8 [b15] := Dj.of F58.low (low1 G23)
         have D61 : Dj fp9 [b15] := Dj.of F59.low (low1 G23)
         have D62 : Dj (fp10 ++ fr2) [b15] := Dj.of F60.low (low1 G23)
         have D63 : Dj [b7] [b15] := Dj.of (lt1 F61.lt) (low1 G23)
         have D64 : Dj [b8] [b15] := Dj.of (lt1 F62.lt) (low1 G23)
         replace F58 := F58.chg hc30 Dj.nil
         replace F59 := F59.chg hc30 Dj.nil
         replace F60 := F60.chg hc30 Dj.nil
         replace F61 := F61.chg hc30 notNil
         replace F62 := F62.chg hc30 notNil
         replace hB := hB.inS hc30 inNil
         have hSz := hS
         replace hS := hS.inS hc30 inNil
         have Gz6 := low1 (Nat.le_trans hSz.size G23)
         replace G23 := Nat.le_trans hZ G23
         replace hZ := Nat.le_trans hZ hc30.size
         refine wS_end (by kernel_rfl) ?_
         refine eX_KH hS ?_
         refine wH_all [8] (by rfl) (by kernel_rfl) (by simp) ⟨⟨by kernel_rfl, ?_⟩, trivial⟩
         obtain ⟨y7, hy7, hm⟩ := bindE hm
         refine wS_calls (d := 104) (f := 27) (vs := [.agg #[.int .i64 (x31.1), .int .i64 (x31.2.1), .int .i64 (x31.2.2.1), .int .i64 (x31.2.2.2.1), .int .i64 (x31.2.2.2.2)], .agg #[.int .i64 (x32.1), .int .i64 (x32.2.1), .int .i64 (x32.2.2.1), .int .i64 (x32.2.2.2.1), .int .i64 (x32.2.2.2.2)]]) (by kernel_rfl) ent27 (c_impl_merge hy7) ?_
         rintro _ w40 ⟨rfl, hc31⟩
         replace F58 := F58.chg hc31 Dj.nil
         replace F59 := F59.chg hc31 Dj.nil
         replace F60 := F60.chg hc31 Dj.nil
         replace F61 := F61.chg hc31 notNil
         replace F62 := F62.chg hc31 notNil
         replace F65 := F65.chg hc31 notNil
         replace hB := hB.inS hc31 inNil
         have hSz := hS
         replace hS := hS.inS hc31 inNil
         replace hZ := Nat.le_trans hZ hc31.size
         refine ⟨.tuple #[.agg #[.int .i64 (y7.1.1), .int .i64 (y7.1.2.1), .int .i64 (y7.1.2.2.1), .int .i64 (y7.1.2.2.2.1), .int .i64 (y7.1.2.2.2.2)], .int .i64 (y7.2.1), .int .i64 (y7.2.2.1), .bool (y7.2.2.2)], rfl, ?_⟩
         refine wS_end (by kernel_rfl) ?_
         refine eX_KH hS ?_
         refine wH_take [9, 10, 11, 12, 13] [13, 12, 11, 10, 9, 8, 14, 7, 6, 5, 4, 3, 2, 1, 0] [(108, .bool (y7.2.2.2)), (107, .int .i64 (y7.2.2.1)), (106, .int .i64 (y7.2.1)), (105, .agg #[.int .i64 (y7.1.1), .int .i64 (y7.1.2.1), .int .i64 (y7.1.2.2.1), .int .i64 (y7.1.2.2.2.1), .int .i64 (y7.1.2.2.2.2)]), (95, .tuple #[.agg #[.int .i64 (y7.1.1), .int .i64 (y7.1.2.1), .int .i64 (y7.1.2.2.1), .int .i64 (y7.1.2.2.2.1), .int .i64 (y7.1.2.2.2.2)], .int .i64 (y7.2.1), .int .i64 (y7.2.2.1), .bool (y7.2.2.2)])] (by kernel_rfl) (qT (qT (qT (qB (qL (qB (qT (qT qZ)))))))) (by kernel_rfl) ?_
         refine wH_all [15] (by rfl) (by kernel_rfl) (by simp) ⟨⟨by kernel_rfl, ?_⟩, trivial⟩
         refine wS_store (T := 58) (g := b15) (o := 0) (ad := ⟨b15, 0, none⟩) (v := .agg #[.int .i64 (y7.1.1), .int .i64 (y7.1.2.1), .int .i64 (y7.1.2.2.1), .int .i64 (y7.1.2.2.2.1), .int .i64 (y7.1.2.2.2.2)]) (vs := [.int .i64 (y7.1.1), .int .i64 (y7.1.2.1), .int .i64 (y7.1.2.2.1), .int .i64 (y7.1.2.2.2.1), .int .i64 (y7.1.2.2.2.2)]) (by kernel_rfl) (by rfl) sz58 (by rfl) (by rfl) F65 (by simp only [List.length_cons, List.length_nil]; omega) ?_
         intro w41 F66 hc32
         replace F58 := F58.chg hc32 D60
         replace F59 := F59.chg hc32 D61
         replace F60 := F60.chg hc32 D62
         replace F61 := F61.chg hc32 (dj1 D63)
         replace F62 := F62.chg hc32 (dj1 D64)
         replace hB := hB.inS hc32 (inLow (low1 G23))
         have hSz := hS
         replace hS := hS.inS hc32 (inLow Gz6)
         replace hZ := Nat.le_trans hZ hc32.size
         replace F66 : Cl w41 b15 58 [.int .i64 (y7.1.1), .int .i64 (y7.1.2.1), .int .i64 (y7.1.2.2.1), .int .i64 (y7.1.2.2.2.1), .int .i64 (y7.1.2.2.2.2)] := F66
         clear F65
         refine wS_end (by kernel_rfl) ?_
         refine eX_KH hS ?_
         refine wH_take [16, 17] [17, 16, 15, 13, 12, 11, 10, 9, 8, 14, 7, 6, 5, 4, 3, 2, 1, 0] [(17, .int .i64 (y7.2.2.1)), (16, .int .i64 (y7.2.1))] (by kernel_rfl) (qT (qT (qT (qB (qL (qB (qT (qT qZ)))))))) (by kernel_rfl) ?_
         refine wH_done (by kernel_rfl) ?_
         refine eX_tail ?_
         refine wS_pure 1 [(18, .bool (y7.2.2.2))] (by kernel_rfl) ?_
         refine wS_end (by rfl) ?_
         have hq : (some ((y7.1.1, y7.1.2.1, y7.1.2.2.1, y7.1.2.2.2.1, y7.1.2.2.2.2, y7.2.2.2)) : Option (Int × Int × Int × Int × Int × Bool)) = some _ := hm
         replace hq := someE hq
         subst hq
         exact eX_J (fun hst => ⟨b15, y7.1.1, y7.1.2.1, y7.1.2.2.1, y7.1.2.2.2.1, y7.1.2.2.2.2, y7.2.2.2, rfl, Fr.of hst (by kernel_rfl), F58, F59, F60, F61, F62, F66, G23, D60, D61, D62, D63, D64, hB, hZ⟩)
       ·rintro a' w42 ⟨b13, x25, x26, x27, x28, x29, x30, hJ, hF10, F67, F68, F69, F70, F71, F72, G24, D65, D66, D67, D68, D69, hB, hZ⟩
        subst hJ
        refine Fr.goX hF10 (by kernel_rfl) ?_
        refine eX_then ?_
        refine cW_seq ?_
        refine cW_seq ?_
        refine cW_region ?_
        refine wS_pure 2 [(110, .bool (!x30)), (109, .bool (x30))] (by kernel_rfl) ?_
        refine wS_end (by rfl) ?_
        refine eX_then ?_
        refine cW_cond (t := !x30) (by kernel_rfl) (fun hb7 => ?_) (fun hb7 => ?_)
        ·have hm := condT hb7 hm
         refine cW_seq ?_
         refine cW_region ?_
         refine wS_pure 2 [(3, .bool (false)), (2, .slice none 0 0)] (by kernel_rfl) ?_
         refine wS_end (by rfl) ?_
         refine eX_then ?_
         refine cW_ret ?_
         refine eX_then_ret ?_
         refine eX_block_ret ?_
         have hq : (some (Ctl.out (Sum.inr (([], false)))) : Option (Ctl ((List (Int × Int × Int × Int × Int)) × (List (Int)) × (List (List (Int)))) (Sum ((List (List (Int)))) ((List (List (Int))) × (Bool))))) = some _ := hm
         replace hq := someE hq
         subst hq
         refine eX_outR hx3 (fun hr => ?_)
         subst hr
         refine eX_block_ret ?_
         refine eX_then_ret ?_
         refine eX_then_ret ?_
         have hq : (some (([], false)) : Option ((List (List (Int))) × (Bool))) = some _ := hm2
         replace hq := someE hq
         subst hq
         refine eX_ret (vs := [.slice none 0 0, .bool (false)]) [.tmp 2, .tmp 3] (by rfl) ⟨by (show lkE _ _ _ = _); kernel_rfl, ⟨by (show lkE _ _ _ = _); kernel_rfl, trivial⟩⟩ ?_
         exact ⟨none, 0, [], [], rfl, OwR.nil _, (lowApp lowNil lowNil), hB⟩
        ·have hm := condF hb7 hm
         refine cW_skip ?_
         refine eX_then ?_
         refine cW_seq ?_
         refine cW_region ?_
         refine wS_pure 2 [(112, .func (.func 29) #[] #[.pointer (some ⟨b7, 0, none⟩), .pointer (some ⟨b8, 0, none⟩)]), (111, .slice A10 (l8).length cap10)] (by kernel_rfl) ?_
         obtain ⟨y8, hy8, hm⟩ := bindE hm
         refine wS_calls (d := 113) (f := 28) (vs := [.slice A10 (l8).length cap10, .func (.func 29) #[] #[.pointer (some ⟨b7, 0, none⟩), .pointer (some ⟨b8, 0, none⟩)]]) (by kernel_rfl) ent28 (c_slices_DeleteFunc_int_int_impl_NearestJoins_1_bint_bint hy8 F68 F68.cap_le F70 F71 D49 D53) ?_
         rintro _ w43 ⟨rfl, F73, hc33⟩
         replace F67 := F67.chg hc33 (Dj.app (D31).symm Dj.nil)
         replace F69 := F69.chg hc33 (Dj.app D33 Dj.nil)
         replace F70 := F70.chg hc33 (dj1 (Dj.app (D49).symm Dj.nil))
         replace F71 := F71.chg hc33 (dj1 (Dj.app (D53).symm Dj.nil))
         replace F72 := F72.chg hc33 (dj1 (Dj.app (D66).symm Dj.nil))
         replace hB := hB.inS hc33 (inApp (inLow G14) inNil)
         clear F68
         replace hZ := Nat.le_trans hZ hc33.size
         refine ⟨.slice A10 (y8).length cap10, rfl, ?_⟩
         refine wS_pure 2 [(115, .int .i64 (((l7).length : Int))), (114, .slice A9 (l7).length cap9)] (by kernel_rfl) ?_
         refine wS_bs (enc := encI) ([((l7).length : Int)] : List (Int)) [.int .i64 (((l7).length : Int))] (d := 116) (t := 60) (T := 3) (n := 1) (ps := [(0, .int .i64 (((l7).length : Int)))]) (by kernel_rfl) el60 encI_ok (by rfl) (by omega) (by omega) (by kernel_rfl) (by rfl) ?_
         intro b16 w44 G25 F74 hc34
         have D70 : Dj fp8 [b16] := Dj.of F67.low (low1 G25)
         have D71 : Dj fp9 [b16] := Dj.of F73.low (low1 G25)
         have D72 : Dj (fp10 ++ fr2) [b16] := Dj.of F69.low (low1 G25)
         have D73 : Dj [b7] [b16] := Dj.of (lt1 F70.lt) (low1 G25)
         have D74 : Dj [b8] [b16] := Dj.of (lt1 F71.lt) (low1 G25)
         have D75 : Dj [b13] [b16] := Dj.of (lt1 F72.lt) (low1 G25)
         replace F67 := F67.chg hc34 Dj.nil
         replace F73 := F73.chg hc34 Dj.nil
         replace F69 := F69.chg hc34 Dj.nil
         replace F70 := F70.chg hc34 notNil
         replace F71 := F71.chg hc34 notNil
         replace F72 := F72.chg hc34 notNil
         replace hB := hB.inS hc34 inNil
         replace G25 := Nat.le_trans hZ G25
         replace G25 := low1 G25
         replace hZ := Nat.le_trans hZ hc34.size
         obtain ⟨_, hk3, hm⟩ := bindE hm
         replace hk3 := apE hk3
         refine wS_append (enc := encI) (l := (y8 : List (Int))) (l2 := (([((l7).length : Int)] : List (Int)) : List (Int))) (d := 117) (t := 60) (T := 3) (A := A10) (A2 := (some ⟨b16, 0, none⟩)) (cap := cap10) (cap2 := 1) (by kernel_rfl) el60 encI_ok F73 (F74.sl encI_ok) (by rfl) hk3 ?_
         intro w45 fp11 A13 cap13 F75 hc35 hp3
         have G26 := low_ap G14 hZ hp3
         have D76 : Dj fp8 fp11 := Dj.ap (D31).symm F67.low hp3
         have D77 : Dj (fp10 ++ fr2) fp11 := Dj.ap D33 F69.low hp3
         have D78 : Dj [b7] fp11 := Dj.ap (D49).symm (lt1 F70.lt) hp3
         have D79 : Dj [b8] fp11 := Dj.ap (D53).symm (lt1 F71.lt) hp3
         have D80 : Dj [b13] fp11 := Dj.ap (D66).symm (lt1 F72.lt) hp3
         have D81 : Dj [b16] fp11 := Dj.ap (D71).symm F74.low hp3
         replace F67 := F67.chg hc35 (D31).symm
         replace F69 := F69.chg hc35 D33
         replace F70 := F70.chg hc35 (dj1 (D49).symm)
         replace F71 := F71.chg hc35 (dj1 (D53).symm)
         replace F72 := F72.chg hc35 (dj1 (D66).symm)
         replace F74 := F74.chg hc35 (D71).symm
         replace hB := hB.inS hc35 (inLow G14)
         replace hZ := Nat.le_trans hZ hc35.size
         refine wS_pure 1 [(5, .slice A13 (y8 ++ (([((l7).length : Int)] : List (Int)))).length cap13)] (by kernel_rfl) ?_
         refine wS_end (by rfl) ?_
         refine eX_then ?_
         obtain ⟨s8, hs4, hm⟩ := bindE hm
         refine cW_cut (fun a' w' => ∃ l10 : List (Int × Int × Int × Int × Int), ∃ A14 : Option Addr, ∃ cap14 : Nat, ∃ fp12 : List Nat, ∃ l11 : List (List (Int)), ∃ A15 : Option Addr, ∃ cap15 : Nat, ∃ fp13 : List Nat, ∃ fr3 : List Nat, (l10, l11) = s8 ∧ Fr 129 [(4, .slice A14 (l10).length cap14), (5, .slice A13 (y8 ++ (([((l7).length : Int)] : List (Int)))).length cap13), (6, .slice A15 (l11).length cap15)] a' ∧ Ow 1 encI 3 w' fp11 A13 cap13 (y8 ++ (([((l7).length : Int)] : List (Int)))) ∧ Ow 5 encIIIII 58 w' fp12 A14 cap14 l10 ∧ OwR 1 encI 32 2 w' fp13 fr3 A15 cap15 l11 ∧ (∀ x ∈ fp12, w0.heap.size ≤ x) ∧ (∀ x ∈ (fp13 ++ fr3), w0.heap.size ≤ x) ∧ Dj fp11 fp12 ∧ Dj (fp13 ++ fr3) fp12 ∧ Dj fp11 (fp13 ++ fr3) ∧ Chg [] w0 w' ∧ w0.heap.size ≤ w'.heap.size) ?_ ?_
         ·have hm := hs4
          refine cW_drawnTail fp8 9 (by kernel_rfl) (by kernel_rfl) (fun w46 hc36 => ?_)
          replace F67 := F67.chg hc36 Dj.nil
          replace F69 := F69.chg hc36 Dj.nil
          replace F70 := F70.chg hc36 notNil
          replace F71 := F71.chg hc36 notNil
          replace F72 := F72.chg hc36 notNil
          replace F74 := F74.chg hc36 Dj.nil
          replace F75 := F75.chg hc36 Dj.nil
          replace hB := hB.inS hc36 inNil
          replace hZ := Nat.le_trans hZ hc36.size
          have hS := Chg.refl fp8 w46
          have Z15 := F67
          have Z16 := F69
          have Z17 := F70
          have Z18 := F71
          have Z19 := F72
          have Z20 := F74
          have Z21 := F75
          refine wH_take [0] [0] [(118, .slice A9 (l7).length cap9)] (by kernel_rfl) (qT (qT (qB (qL (qB (qT (qT qZ))))))) (by kernel_rfl) ?_
          refine wH_loadA (i := 1) (d := 119) (T := 58) (ad := ⟨b13, 0, none⟩) (vs := [.int .i64 (x25), .int .i64 (x26), .int .i64 (x27), .int .i64 (x28), .int .i64 (x29)]) (by kernel_rfl) (qT (qT (qB (qL (qB (qT (qT qZ))))))) (by kernel_rfl) (by kernel_rfl) vt58 (fun W hW i u hu => box_cells (Z19.chg hW (dj1 (D65).symm)) 0 hu (by rfl)) ?_
          refine wH_take [4] [4, 1, 0] [(122, .slice A11 (l9).length cap11)] (by kernel_rfl) (qT (qT (qB (qL (qB (qT (qT qZ))))))) (by kernel_rfl) ?_
          refine wH_load1 (i := 5) (d := 123) (T := 3) (ad := ⟨b7, 0, none⟩) (v := .int .i64 (x7)) (by kernel_rfl) (qT (qT (qB (qL (qB (qT (qT qZ))))))) (by kernel_rfl) (by kernel_rfl) vt3 (fun W hW => (Z17.chg hW (dj1 (D48).symm)).cell 0) ?_
          refine wH_load1 (i := 6) (d := 124) (T := 3) (ad := ⟨b8, 0, none⟩) (v := .int .i64 (x8)) (by kernel_rfl) (qT (qT (qB (qL (qB (qT (qT qZ))))))) (by kernel_rfl) (by kernel_rfl) vt3 (fun W hW => (Z18.chg hW (dj1 (D52).symm)).cell 0) ?_
          refine wH_all [2, 7] (by rfl) (by kernel_rfl) (by simp) ⟨⟨by kernel_rfl, ?_⟩, ⟨by kernel_rfl, ?_⟩, trivial⟩
          ·skip
           refine wS_bs (enc := encIIIII) ([(x25, x26, x27, x28, x29)] : List (Int × Int × Int × Int × Int)) [.int .i64 (x25), .int .i64 (x26), .int .i64 (x27), .int .i64 (x28), .int .i64 (x29)] (d := 120) (t := 51) (T := 58) (n := 1) (ps := [(0, .agg #[.int .i64 (x25), .int .i64 (x26), .int .i64 (x27), .int .i64 (x28), .int .i64 (x29)])]) (by kernel_rfl) el51 encIIIII_ok (by rfl) (by omega) (by omega) (by kernel_rfl) (by rfl) ?_
           intro b17 w47 G27 F76 hc37
           have D82 : Dj fp8 [b17] := Dj.of F67.low (low1 G27)
           have D83 : Dj (fp10 ++ fr2) [b17] := Dj.of F69.low (low1 G27)
           have D84 : Dj [b7] [b17] := Dj.of (lt1 F70.lt) (low1 G27)
           have D85 : Dj [b8] [b17] := Dj.of (lt1 F71.lt) (low1 G27)
           have D86 : Dj [b13] [b17] := Dj.of (lt1 F72.lt) (low1 G27)
           have D87 : Dj [b16] [b17] := Dj.of F74.low (low1 G27)
           have D88 : Dj fp11 [b17] := Dj.of F75.low (low1 G27)
           replace F67 := F67.chg hc37 Dj.nil
           replace F69 := F69.chg hc37 Dj.nil
           replace F70 := F70.chg hc37 notNil
           replace F71 := F71.chg hc37 notNil
           replace F72 := F72.chg hc37 notNil
           replace F74 := F74.chg hc37 Dj.nil
           replace F75 := F75.chg hc37 Dj.nil
           replace hB := hB.inS hc37 inNil
           have hSz := hS
           replace hS := hS.inS hc37 inNil
           have Gz7 := low1 (Nat.le_trans hSz.size G27)
           replace G27 := Nat.le_trans hZ G27
           replace G27 := low1 G27
           replace hZ := Nat.le_trans hZ hc37.size
           refine wS_end (by kernel_rfl) ?_
           refine eX_KH hS ?_
           refine wH_all [3, 7] (by rfl) (by kernel_rfl) (by simp) ⟨⟨by kernel_rfl, ?_⟩, ⟨by kernel_rfl, ?_⟩, trivial⟩
           ·skip
            obtain ⟨_, hk4, hm⟩ := bindE hm
            replace hk4 := apE hk4
            refine wS_append (enc := encIIIII) (l := (l7 : List (Int × Int × Int × Int × Int))) (l2 := (([(x25, x26, x27, x28, x29)] : List (Int × Int × Int × Int × Int)) : List (Int × Int × Int × Int × Int))) (d := 121) (t := 51) (T := 58) (A := A9) (A2 := (some ⟨b17, 0, none⟩)) (cap := cap9) (cap2 := 1) (by kernel_rfl) el51 encIIIII_ok F67 (F76.sl encIIIII_ok) (by rfl) hk4 ?_
            intro w48 fp14 A16 cap16 F77 hc38 hp4
            have G28 := low_ap G13 hZ hp4
            have D89 : Dj (fp10 ++ fr2) fp14 := Dj.ap D32 F69.low hp4
            have D90 : Dj [b7] fp14 := Dj.ap (D48).symm (lt1 F70.lt) hp4
            have D91 : Dj [b8] fp14 := Dj.ap (D52).symm (lt1 F71.lt) hp4
            have D92 : Dj [b13] fp14 := Dj.ap (D65).symm (lt1 F72.lt) hp4
            have D93 : Dj [b16] fp14 := Dj.ap (D70).symm F74.low hp4
            have D94 : Dj fp11 fp14 := Dj.ap (D76).symm F75.low hp4
            have D95 : Dj [b17] fp14 := Dj.ap (D82).symm F76.low hp4
            replace F69 := F69.chg hc38 D32
            replace F70 := F70.chg hc38 (dj1 (D48).symm)
            replace F71 := F71.chg hc38 (dj1 (D52).symm)
            replace F72 := F72.chg hc38 (dj1 (D65).symm)
            replace F74 := F74.chg hc38 (D70).symm
            replace F75 := F75.chg hc38 (D76).symm
            replace F76 := F76.chg hc38 (D82).symm
            replace hB := hB.inS hc38 (inLow G13)
            have hSz := hS
            replace hS := hS.trans hc38
            have Sn1 := sin_ap (Sg := fp8) (inMem (fun x hx => hx)) hSz.size hp4
            replace hZ := Nat.le_trans hZ hc38.size
            refine wS_end (by kernel_rfl) ?_
            refine eX_KH hS ?_
            refine wH_all [7] (by rfl) (by kernel_rfl) (by simp) ⟨⟨by kernel_rfl, ?_⟩, trivial⟩
            refine wS_bs (enc := encI) ([x7, x8] : List (Int)) [.int .i64 (x7), .int .i64 (x8)] (d := 125) (t := 32) (T := 2) (n := 2) (ps := [(0, .int .i64 (x7)), (1, .int .i64 (x8))]) (by kernel_rfl) el32 encI_ok (by rfl) (by omega) (by omega) (by kernel_rfl) (by rfl) ?_
            intro b18 w49 G29 F78 hc39
            have D96 : Dj (fp10 ++ fr2) [b18] := Dj.of F69.low (low1 G29)
            have D97 : Dj [b7] [b18] := Dj.of (lt1 F70.lt) (low1 G29)
            have D98 : Dj [b8] [b18] := Dj.of (lt1 F71.lt) (low1 G29)
            have D99 : Dj [b13] [b18] := Dj.of (lt1 F72.lt) (low1 G29)
            have D100 : Dj [b16] [b18] := Dj.of F74.low (low1 G29)
            have D101 : Dj fp11 [b18] := Dj.of F75.low (low1 G29)
            have D102 : Dj [b17] [b18] := Dj.of F76.low (low1 G29)
            have D103 : Dj fp14 [b18] := Dj.of F77.low (low1 G29)
            replace F69 := F69.chg hc39 Dj.nil
            replace F70 := F70.chg hc39 notNil
            replace F71 := F71.chg hc39 notNil
            replace F72 := F72.chg hc39 notNil
            replace F74 := F74.chg hc39 Dj.nil
            replace F75 := F75.chg hc39 Dj.nil
            replace F76 := F76.chg hc39 Dj.nil
            replace F77 := F77.chg hc39 Dj.nil
            replace hB := hB.inS hc39 inNil
            have hSz := hS
            replace hS := hS.inS hc39 inNil
            have Gz8 := low1 (Nat.le_trans hSz.size G29)
            replace G29 := Nat.le_trans hZ G29
            replace G29 := low1 G29
            replace hZ := Nat.le_trans hZ hc39.size
            refine wS_end (by kernel_rfl) ?_
            refine eX_KH hS ?_
            refine wH_all [8] (by rfl) (by kernel_rfl) (by simp) ⟨⟨by kernel_rfl, ?_⟩, trivial⟩
            refine wS_row1 (k := 1) (enc := encI) (l := ([x7, x8] : List (Int))) (d := 126) (t := 26) (T := 32) (B := (some ⟨b18, 0, none⟩)) (c := 2) (by kernel_rfl) el26 F78 ?_
            intro b19 w50 G30 F79 hc40
            have D104 : Dj (fp10 ++ fr2) ([b19] ++ [b18]) := Dj.app (Dj.of F69.low (low1 G30)) D96
            have D105 : Dj [b7] ([b19] ++ [b18]) := Dj.app (Dj.of (lt1 F70.lt) (low1 G30)) D97
            have D106 : Dj [b8] ([b19] ++ [b18]) := Dj.app (Dj.of (lt1 F71.lt) (low1 G30)) D98
            have D107 : Dj [b13] ([b19] ++ [b18]) := Dj.app (Dj.of (lt1 F72.lt) (low1 G30)) D99
            have D108 : Dj [b16] ([b19] ++ [b18]) := Dj.app (Dj.of F74.low (low1 G30)) D100
            have D109 : Dj fp11 ([b19] ++ [b18]) := Dj.app (Dj.of F75.low (low1 G30)) D101
            have D110 : Dj [b17] ([b19] ++ [b18]) := Dj.app (Dj.of F76.low (low1 G30)) D102
            have D111 : Dj fp14 ([b19] ++ [b18]) := Dj.app (Dj.of F77.low (low1 G30)) D103
            replace F69 := F69.chg hc40 Dj.nil
            replace F70 := F70.chg hc40 notNil
            replace F71 := F71.chg hc40 notNil
            replace F72 := F72.chg hc40 notNil
            replace F74 := F74.chg hc40 Dj.nil
            replace F75 := F75.chg hc40 Dj.nil
            replace F76 := F76.chg hc40 Dj.nil
            replace F77 := F77.chg hc40 Dj.nil
            replace F78 := F78.chg hc40 Dj.nil
            replace hB := hB.inS hc40 inNil
            have hSz := hS
            replace hS := hS.inS hc40 inNil
            replace G30 := Nat.le_trans hZ G30
            replace G30 := lowApp (low1 G30) G29
            replace hZ := Nat.le_trans hZ hc40.size
            replace F78 := (F78.sl encI_ok)
            refine wS_end (by kernel_rfl) ?_
            refine eX_KH hS ?_
            refine wH_done (by kernel_rfl) ?_
            refine eX_tail ?_
            obtain ⟨_, hk5, hm⟩ := bindE hm
            replace hk5 := apE hk5
            refine wS_appendR (k := 1) (enc := encI) (ll := (l9 : List (List (Int)))) (ll2 := (([([x7, x8] : List (Int))] : List (List (Int))) : List (List (Int)))) (d := 127) (t := 26) (T := 32) (A := A11) (A2 := (some ⟨b19, 0, none⟩)) (cap := cap11) (cap2 := 1) (by kernel_rfl) el26 F69 F79 (by rfl) D104 hk5 ?_
            intro w51 fp15 A17 cap17 F80 hc41 hp5
            have G31 := lowApp (low_ap (low_inl G15) hZ hp5) (lowApp (low_inr G15) (low_inr G30))
            have D112 : Dj [b7] (fp15 ++ (fr2 ++ [b18])) := Dj.app (Dj.ap (Dj.inl (D50).symm) (lt1 F70.lt) hp5) (Dj.app (Dj.inr (D50).symm) (Dj.inr D105))
            have D113 : Dj [b8] (fp15 ++ (fr2 ++ [b18])) := Dj.app (Dj.ap (Dj.inl (D54).symm) (lt1 F71.lt) hp5) (Dj.app (Dj.inr (D54).symm) (Dj.inr D106))
            have D114 : Dj [b13] (fp15 ++ (fr2 ++ [b18])) := Dj.app (Dj.ap (Dj.inl (D67).symm) (lt1 F72.lt) hp5) (Dj.app (Dj.inr (D67).symm) (Dj.inr D107))
            have D115 : Dj [b16] (fp15 ++ (fr2 ++ [b18])) := Dj.app (Dj.ap (Dj.inl (D72).symm) F74.low hp5) (Dj.app (Dj.inr (D72).symm) (Dj.inr D108))
            have D116 : Dj fp11 (fp15 ++ (fr2 ++ [b18])) := Dj.app (Dj.ap (Dj.inl (D77).symm) F75.low hp5) (Dj.app (Dj.inr (D77).symm) (Dj.inr D109))
            have D117 : Dj [b17] (fp15 ++ (fr2 ++ [b18])) := Dj.app (Dj.ap (Dj.inl (D83).symm) F76.low hp5) (Dj.app (Dj.inr (D83).symm) (Dj.inr D110))
            have D118 : Dj fp14 (fp15 ++ (fr2 ++ [b18])) := Dj.app (Dj.ap (Dj.inl (D89).symm) F77.low hp5) (Dj.app (Dj.inr (D89).symm) (Dj.inr D111))
            replace F70 := F70.chg hc41 (dj1 (Dj.inl (D50).symm))
            replace F71 := F71.chg hc41 (dj1 (Dj.inl (D54).symm))
            replace F72 := F72.chg hc41 (dj1 (Dj.inl (D67).symm))
            replace F74 := F74.chg hc41 (Dj.inl (D72).symm)
            replace F75 := F75.chg hc41 (Dj.inl (D77).symm)
            replace F76 := F76.chg hc41 (Dj.inl (D83).symm)
            replace F77 := F77.chg hc41 (Dj.inl (D89).symm)
            replace hB := hB.inS hc41 (memS_inl (inLow G15))
            replace hZ := Nat.le_trans hZ hc41.size
            refine wS_pure 2 [(6, .slice A17 (l9 ++ (([([x7, x8] : List (Int))] : List (List (Int))))).length cap17), (4, .slice A16 (l7 ++ (([(x25, x26, x27, x28, x29)] : List (Int × Int × Int × Int × Int)))).length cap16)] (by kernel_rfl) ?_
            refine wS_end (by rfl) ?_
            have hq : (some ((l7 ++ (([(x25, x26, x27, x28, x29)] : List (Int × Int × Int × Int × Int))), l9 ++ (([([x7, x8] : List (Int))] : List (List (Int)))))) : Option ((List (Int × Int × Int × Int × Int)) × (List (List (Int))))) = some _ := hm
            replace hq := someE hq
            subst hq
            exact eX_J (fun hst => ⟨l7 ++ (([(x25, x26, x27, x28, x29)] : List (Int × Int × Int × Int × Int))), A16, cap16, fp14, l9 ++ (([([x7, x8] : List (Int))] : List (List (Int)))), A17, cap17, fp15, (fr2 ++ [b18]), rfl, Fr.of hst (by kernel_rfl), F75, F77, F80, G28, G31, D94, (D118).symm, D116, hB, hZ⟩)
           ·skip
            refine wS_bs (enc := encI) ([x7, x8] : List (Int)) [.int .i64 (x7), .int .i64 (x8)] (d := 125) (t := 32) (T := 2) (n := 2) (ps := [(0, .int .i64 (x7)), (1, .int .i64 (x8))]) (by kernel_rfl) el32 encI_ok (by rfl) (by omega) (by omega) (by kernel_rfl) (by rfl) ?_
            intro b20 w52 G32 F81 hc42
            have D119 : Dj fp8 [b20] := Dj.of F67.low (low1 G32)
            have D120 : Dj (fp10 ++ fr2) [b20] := Dj.of F69.low (low1 G32)
            have D121 : Dj [b7] [b20] := Dj.of (lt1 F70.lt) (low1 G32)
            have D122 : Dj [b8] [b20] := Dj.of (lt1 F71.lt) (low1 G32)
            have D123 : Dj [b13] [b20] := Dj.of (lt1 F72.lt) (low1 G32)
            have D124 : Dj [b16] [b20] := Dj.of F74.low (low1 G32)
            have D125 : Dj fp11 [b20] := Dj.of F75.low (low1 G32)
            have D126 : Dj [b17] [b20] := Dj.of F76.low (low1 G32)
            replace F67 := F67.chg hc42 Dj.nil
            replace F69 := F69.chg hc42 Dj.nil
            replace F70 := F70.chg hc42 notNil
            replace F71 := F71.chg hc42 notNil
            replace F72 := F72.chg hc42 notNil
            replace F74 := F74.chg hc42 Dj.nil
            replace F75 := F75.chg hc42 Dj.nil
            replace F76 := F76.chg hc42 Dj.nil
            replace hB := hB.inS hc42 inNil
            have hSz := hS
            replace hS := hS.inS hc42 inNil
            have Gz9 := low1 (Nat.le_trans hSz.size G32)
            replace G32 := Nat.le_trans hZ G32
            replace G32 := low1 G32
            replace hZ := Nat.le_trans hZ hc42.size
            refine wS_end (by kernel_rfl) ?_
            refine eX_KH hS ?_
            refine wH_all [3, 8] (by rfl) (by kernel_rfl) (by simp) ⟨⟨by kernel_rfl, ?_⟩, ⟨by kernel_rfl, ?_⟩, trivial⟩
            ·skip
             obtain ⟨_, hk6, hm⟩ := bindE hm
             replace hk6 := apE hk6
             refine wS_append (enc := encIIIII) (l := (l7 : List (Int × Int × Int × Int × Int))) (l2 := (([(x25, x26, x27, x28, x29)] : List (Int × Int × Int × Int × Int)) : List (Int × Int × Int × Int × Int))) (d := 121) (t := 51) (T := 58) (A := A9) (A2 := (some ⟨b17, 0, none⟩)) (cap := cap9) (cap2 := 1) (by kernel_rfl) el51 encIIIII_ok F67 (F76.sl encIIIII_ok) (by rfl) hk6 ?_
             intro w53 fp16 A18 cap18 F82 hc43 hp6
             have G33 := low_ap G13 hZ hp6
             have D127 : Dj (fp10 ++ fr2) fp16 := Dj.ap D32 F69.low hp6
             have D128 : Dj [b7] fp16 := Dj.ap (D48).symm (lt1 F70.lt) hp6
             have D129 : Dj [b8] fp16 := Dj.ap (D52).symm (lt1 F71.lt) hp6
             have D130 : Dj [b13] fp16 := Dj.ap (D65).symm (lt1 F72.lt) hp6
             have D131 : Dj [b16] fp16 := Dj.ap (D70).symm F74.low hp6
             have D132 : Dj fp11 fp16 := Dj.ap (D76).symm F75.low hp6
             have D133 : Dj [b17] fp16 := Dj.ap (D82).symm F76.low hp6
             have D134 : Dj [b20] fp16 := Dj.ap (D119).symm F81.low hp6
             replace F69 := F69.chg hc43 D32
             replace F70 := F70.chg hc43 (dj1 (D48).symm)
             replace F71 := F71.chg hc43 (dj1 (D52).symm)
             replace F72 := F72.chg hc43 (dj1 (D65).symm)
             replace F74 := F74.chg hc43 (D70).symm
             replace F75 := F75.chg hc43 (D76).symm
             replace F76 := F76.chg hc43 (D82).symm
             replace F81 := F81.chg hc43 (D119).symm
             replace hB := hB.inS hc43 (inLow G13)
             have hSz := hS
             replace hS := hS.trans hc43
             have Sn2 := sin_ap (Sg := fp8) (inMem (fun x hx => hx)) hSz.size hp6
             replace hZ := Nat.le_trans hZ hc43.size
             refine wS_end (by kernel_rfl) ?_
             refine eX_KH hS ?_
             refine wH_all [8] (by rfl) (by kernel_rfl) (by simp) ⟨⟨by kernel_rfl, ?_⟩, trivial⟩
             refine wS_row1 (k := 1) (enc := encI) (l := ([x7, x8] : List (Int))) (d := 126) (t := 26) (T := 32) (B := (some ⟨b20, 0, none⟩)) (c := 2) (by kernel_rfl) el26 F81 ?_
             intro b21 w54 G34 F83 hc44
             have D135 : Dj (fp10 ++ fr2) ([b21] ++ [b20]) := Dj.app (Dj.of F69.low (low1 G34)) D120
             have D136 : Dj [b7] ([b21] ++ [b20]) := Dj.app (Dj.of (lt1 F70.lt) (low1 G34)) D121
             have D137 : Dj [b8] ([b21] ++ [b20]) := Dj.app (Dj.of (lt1 F71.lt) (low1 G34)) D122
             have D138 : Dj [b13] ([b21] ++ [b20]) := Dj.app (Dj.of (lt1 F72.lt) (low1 G34)) D123
             have D139 : Dj [b16] ([b21] ++ [b20]) := Dj.app (Dj.of F74.low (low1 G34)) D124
             have D140 : Dj fp11 ([b21] ++ [b20]) := Dj.app (Dj.of F75.low (low1 G34)) D125
             have D141 : Dj [b17] ([b21] ++ [b20]) := Dj.app (Dj.of F76.low (low1 G34)) D126
             have D142 : Dj fp16 ([b21] ++ [b20]) := Dj.app (Dj.of F82.low (low1 G34)) (D134).symm
             replace F69 := F69.chg hc44 Dj.nil
             replace F70 := F70.chg hc44 notNil
             replace F71 := F71.chg hc44 notNil
             replace F72 := F72.chg hc44 notNil
             replace F74 := F74.chg hc44 Dj.nil
             replace F75 := F75.chg hc44 Dj.nil
             replace F76 := F76.chg hc44 Dj.nil
             replace F81 := F81.chg hc44 Dj.nil
             replace F82 := F82.chg hc44 Dj.nil
             replace hB := hB.inS hc44 inNil
             have hSz := hS
             replace hS := hS.inS hc44 inNil
             replace G34 := Nat.le_trans hZ G34
             replace G34 := lowApp (low1 G34) G32
             replace hZ := Nat.le_trans hZ hc44.size
             replace F81 := (F81.sl encI_ok)
             refine wS_end (by kernel_rfl) ?_
             refine eX_KH hS ?_
             refine wH_done (by kernel_rfl) ?_
             refine eX_tail ?_
             obtain ⟨_, hk7, hm⟩ := bindE hm
             replace hk7 := apE hk7
             refine wS_appendR (k := 1) (enc := encI) (ll := (l9 : List (List (Int)))) (ll2 := (([([x7, x8] : List (Int))] : List (List (Int))) : List (List (Int)))) (d := 127) (t := 26) (T := 32) (A := A11) (A2 := (some ⟨b21, 0, none⟩)) (cap := cap11) (cap2 := 1) (by kernel_rfl) el26 F69 F83 (by rfl) D135 hk7 ?_
             intro w55 fp17 A19 cap19 F84 hc45 hp7
             have G35 := lowApp (low_ap (low_inl G15) hZ hp7) (lowApp (low_inr G15) (low_inr G34))
             have D143 : Dj [b7] (fp17 ++ (fr2 ++ [b20])) := Dj.app (Dj.ap (Dj.inl (D50).symm) (lt1 F70.lt) hp7) (Dj.app (Dj.inr (D50).symm) (Dj.inr D136))
             have D144 : Dj [b8] (fp17 ++ (fr2 ++ [b20])) := Dj.app (Dj.ap (Dj.inl (D54).symm) (lt1 F71.lt) hp7) (Dj.app (Dj.inr (D54).symm) (Dj.inr D137))
             have D145 : Dj [b13] (fp17 ++ (fr2 ++ [b20])) := Dj.app (Dj.ap (Dj.inl (D67).symm) (lt1 F72.lt) hp7) (Dj.app (Dj.inr (D67).symm) (Dj.inr D138))
             have D146 : Dj [b16] (fp17 ++ (fr2 ++ [b20])) := Dj.app (Dj.ap (Dj.inl (D72).symm) F74.low hp7) (Dj.app (Dj.inr (D72).symm) (Dj.inr D139))
             have D147 : Dj fp11 (fp17 ++ (fr2 ++ [b20])) := Dj.app (Dj.ap (Dj.inl (D77).symm) F75.low hp7) (Dj.app (Dj.inr (D77).symm) (Dj.inr D140))
             have D148 : Dj [b17] (fp17 ++ (fr2 ++ [b20])) := Dj.app (Dj.ap (Dj.inl (D83).symm) F76.low hp7) (Dj.app (Dj.inr (D83).symm) (Dj.inr D141))
             have D149 : Dj fp16 (fp17 ++ (fr2 ++ [b20])) := Dj.app (Dj.ap (Dj.inl (D127).symm) F82.low hp7) (Dj.app (Dj.inr (D127).symm) (Dj.inr D142))
             replace F70 := F70.chg hc45 (dj1 (Dj.inl (D50).symm))
             replace F71 := F71.chg hc45 (dj1 (Dj.inl (D54).symm))
             replace F72 := F72.chg hc45 (dj1 (Dj.inl (D67).symm))
             replace F74 := F74.chg hc45 (Dj.inl (D72).symm)
             replace F75 := F75.chg hc45 (Dj.inl (D77).symm)
             replace F76 := F76.chg hc45 (Dj.inl (D83).symm)
             replace F82 := F82.chg hc45 (Dj.inl (D127).symm)
             replace hB := hB.inS hc45 (memS_inl (inLow G15))
             replace hZ := Nat.le_trans hZ hc45.size
             refine wS_pure 2 [(6, .slice A19 (l9 ++ (([([x7, x8] : List (Int))] : List (List (Int))))).length cap19), (4, .slice A18 (l7 ++ (([(x25, x26, x27, x28, x29)] : List (Int × Int × Int × Int × Int)))).length cap18)] (by kernel_rfl) ?_
             refine wS_end (by rfl) ?_
             have hq : (some ((l7 ++ (([(x25, x26, x27, x28, x29)] : List (Int × Int × Int × Int × Int))), l9 ++ (([([x7, x8] : List (Int))] : List (List (Int)))))) : Option ((List (Int × Int × Int × Int × Int)) × (List (List (Int))))) = some _ := hm
             replace hq := someE hq
             subst hq
             exact eX_J (fun hst => ⟨l7 ++ (([(x25, x26, x27, x28, x29)] : List (Int × Int × Int × Int × Int))), A18, cap18, fp16, l9 ++ (([([x7, x8] : List (Int))] : List (List (Int)))), A19, cap19, fp17, (fr2 ++ [b20]), rfl, Fr.of hst (by kernel_rfl), F75, F82, F84, G33, G35, D132, (D149).symm, D147, hB, hZ⟩)
            ·skip
             refine wS_row1 (k := 1) (enc := encI) (l := ([x7, x8] : List (Int))) (d := 126) (t := 26) (T := 32) (B := (some ⟨b20, 0, none⟩)) (c := 2) (by kernel_rfl) el26 F81 ?_
             intro b22 w56 G36 F85 hc46
             have D150 : Dj fp8 ([b22] ++ [b20]) := Dj.app (Dj.of F67.low (low1 G36)) D119
             have D151 : Dj (fp10 ++ fr2) ([b22] ++ [b20]) := Dj.app (Dj.of F69.low (low1 G36)) D120
             have D152 : Dj [b7] ([b22] ++ [b20]) := Dj.app (Dj.of (lt1 F70.lt) (low1 G36)) D121
             have D153 : Dj [b8] ([b22] ++ [b20]) := Dj.app (Dj.of (lt1 F71.lt) (low1 G36)) D122
             have D154 : Dj [b13] ([b22] ++ [b20]) := Dj.app (Dj.of (lt1 F72.lt) (low1 G36)) D123
             have D155 : Dj [b16] ([b22] ++ [b20]) := Dj.app (Dj.of F74.low (low1 G36)) D124
             have D156 : Dj fp11 ([b22] ++ [b20]) := Dj.app (Dj.of F75.low (low1 G36)) D125
             have D157 : Dj [b17] ([b22] ++ [b20]) := Dj.app (Dj.of F76.low (low1 G36)) D126
             replace F67 := F67.chg hc46 Dj.nil
             replace F69 := F69.chg hc46 Dj.nil
             replace F70 := F70.chg hc46 notNil
             replace F71 := F71.chg hc46 notNil
             replace F72 := F72.chg hc46 notNil
             replace F74 := F74.chg hc46 Dj.nil
             replace F75 := F75.chg hc46 Dj.nil
             replace F76 := F76.chg hc46 Dj.nil
             replace F81 := F81.chg hc46 Dj.nil
             replace hB := hB.inS hc46 inNil
             have hSz := hS
             replace hS := hS.inS hc46 inNil
             replace G36 := Nat.le_trans hZ G36
             replace G36 := lowApp (low1 G36) G32
             replace hZ := Nat.le_trans hZ hc46.size
             replace F81 := (F81.sl encI_ok)
             refine wS_end (by kernel_rfl) ?_
             refine eX_KH hS ?_
             refine wH_all [3] (by rfl) (by kernel_rfl) (by simp) ⟨⟨by kernel_rfl, ?_⟩, trivial⟩
             obtain ⟨_, hk8, hm⟩ := bindE hm
             replace hk8 := apE hk8
             refine wS_append (enc := encIIIII) (l := (l7 : List (Int × Int × Int × Int × Int))) (l2 := (([(x25, x26, x27, x28, x29)] : List (Int × Int × Int × Int × Int)) : List (Int × Int × Int × Int × Int))) (d := 121) (t := 51) (T := 58) (A := A9) (A2 := (some ⟨b17, 0, none⟩)) (cap := cap9) (cap2 := 1) (by kernel_rfl) el51 encIIIII_ok F67 (F76.sl encIIIII_ok) (by rfl) hk8 ?_
             intro w57 fp18 A20 cap20 F86 hc47 hp8
             have G37 := low_ap G13 hZ hp8
             have D158 : Dj (fp10 ++ fr2) fp18 := Dj.ap D32 F69.low hp8
             have D159 : Dj [b7] fp18 := Dj.ap (D48).symm (lt1 F70.lt) hp8
             have D160 : Dj [b8] fp18 := Dj.ap (D52).symm (lt1 F71.lt) hp8
             have D161 : Dj [b13] fp18 := Dj.ap (D65).symm (lt1 F72.lt) hp8
             have D162 : Dj [b16] fp18 := Dj.ap (D70).symm F74.low hp8
             have D163 : Dj fp11 fp18 := Dj.ap (D76).symm F75.low hp8
             have D164 : Dj [b17] fp18 := Dj.ap (D82).symm F76.low hp8
             have D165 : Dj [b20] fp18 := Dj.ap (D119).symm F81.low hp8
             have D166 : Dj ([b22] ++ [b20]) fp18 := Dj.ap (D150).symm F85.low hp8
             replace F69 := F69.chg hc47 D32
             replace F70 := F70.chg hc47 (dj1 (D48).symm)
             replace F71 := F71.chg hc47 (dj1 (D52).symm)
             replace F72 := F72.chg hc47 (dj1 (D65).symm)
             replace F74 := F74.chg hc47 (D70).symm
             replace F75 := F75.chg hc47 (D76).symm
             replace F76 := F76.chg hc47 (D82).symm
             replace F81 := F81.chg hc47 (D119).symm
             replace F85 := F85.chg hc47 (D150).symm
             replace hB := hB.inS hc47 (inLow G13)
             have hSz := hS
             replace hS := hS.trans hc47
             have Sn3 := sin_ap (Sg := fp8) (inMem (fun x hx => hx)) hSz.size hp8
             replace hZ := Nat.le_trans hZ hc47.size
             refine wS_end (by kernel_rfl) ?_
             refine eX_KH hS ?_
             refine wH_done (by kernel_rfl) ?_
             refine eX_tail ?_
             obtain ⟨_, hk9, hm⟩ := bindE hm
             replace hk9 := apE hk9
             refine wS_appendR (k := 1) (enc := encI) (ll := (l9 : List (List (Int)))) (ll2 := (([([x7, x8] : List (Int))] : List (List (Int))) : List (List (Int)))) (d := 127) (t := 26) (T := 32) (A := A11) (A2 := (some ⟨b22, 0, none⟩)) (cap := cap11) (cap2 := 1) (by kernel_rfl) el26 F69 F85 (by rfl) D151 hk9 ?_
             intro w58 fp19 A21 cap21 F87 hc48 hp9
             have G38 := lowApp (low_ap (low_inl G15) hZ hp9) (lowApp (low_inr G15) (low_inr G36))
             have D167 : Dj [b7] (fp19 ++ (fr2 ++ [b20])) := Dj.app (Dj.ap (Dj.inl (D50).symm) (lt1 F70.lt) hp9) (Dj.app (Dj.inr (D50).symm) (Dj.inr D152))
             have D168 : Dj [b8] (fp19 ++ (fr2 ++ [b20])) := Dj.app (Dj.ap (Dj.inl (D54).symm) (lt1 F71.lt) hp9) (Dj.app (Dj.inr (D54).symm) (Dj.inr D153))
             have D169 : Dj [b13] (fp19 ++ (fr2 ++ [b20])) := Dj.app (Dj.ap (Dj.inl (D67).symm) (lt1 F72.lt) hp9) (Dj.app (Dj.inr (D67).symm) (Dj.inr D154))
             have D170 : Dj [b16] (fp19 ++ (fr2 ++ [b20])) := Dj.app (Dj.ap (Dj.inl (D72).symm) F74.low hp9) (Dj.app (Dj.inr (D72).symm) (Dj.inr D155))
             have D171 : Dj fp11 (fp19 ++ (fr2 ++ [b20])) := Dj.app (Dj.ap (Dj.inl (D77).symm) F75.low hp9) (Dj.app (Dj.inr (D77).symm) (Dj.inr D156))
             have D172 : Dj [b17] (fp19 ++ (fr2 ++ [b20])) := Dj.app (Dj.ap (Dj.inl (D83).symm) F76.low hp9) (Dj.app (Dj.inr (D83).symm) (Dj.inr D157))
             have D173 : Dj fp18 (fp19 ++ (fr2 ++ [b20])) := Dj.app (Dj.ap (Dj.inl (D158).symm) F86.low hp9) (Dj.app (Dj.inr (D158).symm) (Dj.inr (D166).symm))
             replace F70 := F70.chg hc48 (dj1 (Dj.inl (D50).symm))
             replace F71 := F71.chg hc48 (dj1 (Dj.inl (D54).symm))
             replace F72 := F72.chg hc48 (dj1 (Dj.inl (D67).symm))
             replace F74 := F74.chg hc48 (Dj.inl (D72).symm)
             replace F75 := F75.chg hc48 (Dj.inl (D77).symm)
             replace F76 := F76.chg hc48 (Dj.inl (D83).symm)
             replace F86 := F86.chg hc48 (Dj.inl (D158).symm)
             replace hB := hB.inS hc48 (memS_inl (inLow G15))
             replace hZ := Nat.le_trans hZ hc48.size
             refine wS_pure 2 [(6, .slice A21 (l9 ++ (([([x7, x8] : List (Int))] : List (List (Int))))).length cap21), (4, .slice A20 (l7 ++ (([(x25, x26, x27, x28, x29)] : List (Int × Int × Int × Int × Int)))).length cap20)] (by kernel_rfl) ?_
             refine wS_end (by rfl) ?_
             have hq : (some ((l7 ++ (([(x25, x26, x27, x28, x29)] : List (Int × Int × Int × Int × Int))), l9 ++ (([([x7, x8] : List (Int))] : List (List (Int)))))) : Option ((List (Int × Int × Int × Int × Int)) × (List (List (Int))))) = some _ := hm
             replace hq := someE hq
             subst hq
             exact eX_J (fun hst => ⟨l7 ++ (([(x25, x26, x27, x28, x29)] : List (Int × Int × Int × Int × Int))), A20, cap20, fp18, l9 ++ (([([x7, x8] : List (Int))] : List (List (Int)))), A21, cap21, fp19, (fr2 ++ [b20]), rfl, Fr.of hst (by kernel_rfl), F75, F86, F87, G37, G38, D163, (D173).symm, D171, hB, hZ⟩)
          ·skip
           refine wS_bs (enc := encI) ([x7, x8] : List (Int)) [.int .i64 (x7), .int .i64 (x8)] (d := 125) (t := 32) (T := 2) (n := 2) (ps := [(0, .int .i64 (x7)), (1, .int .i64 (x8))]) (by kernel_rfl) el32 encI_ok (by rfl) (by omega) (by omega) (by kernel_rfl) (by rfl) ?_
           intro b23 w59 G39 F88 hc49
           have D174 : Dj fp8 [b23] := Dj.of F67.low (low1 G39)
           have D175 : Dj (fp10 ++ fr2) [b23] := Dj.of F69.low (low1 G39)
           have D176 : Dj [b7] [b23] := Dj.of (lt1 F70.lt) (low1 G39)
           have D177 : Dj [b8] [b23] := Dj.of (lt1 F71.lt) (low1 G39)
           have D178 : Dj [b13] [b23] := Dj.of (lt1 F72.lt) (low1 G39)
           have D179 : Dj [b16] [b23] := Dj.of F74.low (low1 G39)
           have D180 : Dj fp11 [b23] := Dj.of F75.low (low1 G39)
           replace F67 := F67.chg hc49 Dj.nil
           replace F69 := F69.chg hc49 Dj.nil
           replace F70 := F70.chg hc49 notNil
           replace F71 := F71.chg hc49 notNil
           replace F72 := F72.chg hc49 notNil
           replace F74 := F74.chg hc49 Dj.nil
           replace F75 := F75.chg hc49 Dj.nil
           replace hB := hB.inS hc49 inNil
           have hSz := hS
           replace hS := hS.inS hc49 inNil
           have Gz10 := low1 (Nat.le_trans hSz.size G39)
           replace G39 := Nat.le_trans hZ G39
           replace G39 := low1 G39
           replace hZ := Nat.le_trans hZ hc49.size
           refine wS_end (by kernel_rfl) ?_
           refine eX_KH hS ?_
           refine wH_all [2, 8] (by rfl) (by kernel_rfl) (by simp) ⟨⟨by kernel_rfl, ?_⟩, ⟨by kernel_rfl, ?_⟩, trivial⟩
           ·skip
            refine wS_bs (enc := encIIIII) ([(x25, x26, x27, x28, x29)] : List (Int × Int × Int × Int × Int)) [.int .i64 (x25), .int .i64 (x26), .int .i64 (x27), .int .i64 (x28), .int .i64 (x29)] (d := 120) (t := 51) (T := 58) (n := 1) (ps := [(0, .agg #[.int .i64 (x25), .int .i64 (x26), .int .i64 (x27), .int .i64 (x28), .int .i64 (x29)])]) (by kernel_rfl) el51 encIIIII_ok (by rfl) (by omega) (by omega) (by kernel_rfl) (by rfl) ?_
            intro b24 w60 G40 F89 hc50
            have D181 : Dj fp8 [b24] := Dj.of F67.low (low1 G40)
            have D182 : Dj (fp10 ++ fr2) [b24] := Dj.of F69.low (low1 G40)
            have D183 : Dj [b7] [b24] := Dj.of (lt1 F70.lt) (low1 G40)
            have D184 : Dj [b8] [b24] := Dj.of (lt1 F71.lt) (low1 G40)
            have D185 : Dj [b13] [b24] := Dj.of (lt1 F72.lt) (low1 G40)
            have D186 : Dj [b16] [b24] := Dj.of F74.low (low1 G40)
            have D187 : Dj fp11 [b24] := Dj.of F75.low (low1 G40)
            have D188 : Dj [b23] [b24] := Dj.of F88.low (low1 G40)
            replace F67 := F67.chg hc50 Dj.nil
            replace F69 := F69.chg hc50 Dj.nil
            replace F70 := F70.chg hc50 notNil
            replace F71 := F71.chg hc50 notNil
            replace F72 := F72.chg hc50 notNil
            replace F74 := F74.chg hc50 Dj.nil
            replace F75 := F75.chg hc50 Dj.nil
            replace F88 := F88.chg hc50 Dj.nil
            replace hB := hB.inS hc50 inNil
            have hSz := hS
            replace hS := hS.inS hc50 inNil
            have Gz11 := low1 (Nat.le_trans hSz.size G40)
            replace G40 := Nat.le_trans hZ G40
            replace G40 := low1 G40
            replace hZ := Nat.le_trans hZ hc50.size
            refine wS_end (by kernel_rfl) ?_
            refine eX_KH hS ?_
            refine wH_all [3, 8] (by rfl) (by kernel_rfl) (by simp) ⟨⟨by kernel_rfl, ?_⟩, ⟨by kernel_rfl, ?_⟩, trivial⟩
            ·skip
             obtain ⟨_, hk10, hm⟩ := bindE hm
             replace hk10 := apE hk10
             refine wS_append (enc := encIIIII) (l := (l7 : List (Int × Int × Int × Int × Int))) (l2 := (([(x25, x26, x27, x28, x29)] : List (Int × Int × Int × Int × Int)) : List (Int × Int × Int × Int × Int))) (d := 121) (t := 51) (T := 58) (A := A9) (A2 := (some ⟨b24, 0, none⟩)) (cap := cap9) (cap2 := 1) (by kernel_rfl) el51 encIIIII_ok F67 (F89.sl encIIIII_ok) (by rfl) hk10 ?_
             intro w61 fp20 A22 cap22 F90 hc51 hp10
             have G41 := low_ap G13 hZ hp10
             have D189 : Dj (fp10 ++ fr2) fp20 := Dj.ap D32 F69.low hp10
             have D190 : Dj [b7] fp20 := Dj.ap (D48).symm (lt1 F70.lt) hp10
             have D191 : Dj [b8] fp20 := Dj.ap (D52).symm (lt1 F71.lt) hp10
             have D192 : Dj [b13] fp20 := Dj.ap (D65).symm (lt1 F72.lt) hp10
             have D193 : Dj [b16] fp20 := Dj.ap (D70).symm F74.low hp10
             have D194 : Dj fp11 fp20 := Dj.ap (D76).symm F75.low hp10
             have D195 : Dj [b23] fp20 := Dj.ap (D174).symm F88.low hp10
             have D196 : Dj [b24] fp20 := Dj.ap (D181).symm F89.low hp10
             replace F69 := F69.chg hc51 D32
             replace F70 := F70.chg hc51 (dj1 (D48).symm)
             replace F71 := F71.chg hc51 (dj1 (D52).symm)
             replace F72 := F72.chg hc51 (dj1 (D65).symm)
             replace F74 := F74.chg hc51 (D70).symm
             replace F75 := F75.chg hc51 (D76).symm
             replace F88 := F88.chg hc51 (D174).symm
             replace F89 := F89.chg hc51 (D181).symm
             replace hB := hB.inS hc51 (inLow G13)
             have hSz := hS
             replace hS := hS.trans hc51
             have Sn4 := sin_ap (Sg := fp8) (inMem (fun x hx => hx)) hSz.size hp10
             replace hZ := Nat.le_trans hZ hc51.size
             refine wS_end (by kernel_rfl) ?_
             refine eX_KH hS ?_
             refine wH_all [8] (by rfl) (by kernel_rfl) (by simp) ⟨⟨by kernel_rfl, ?_⟩, trivial⟩
             refine wS_row1 (k := 1) (enc := encI) (l := ([x7, x8] : List (Int))) (d := 126) (t := 26) (T := 32) (B := (some ⟨b23, 0, none⟩)) (c := 2) (by kernel_rfl) el26 F88 ?_
             intro b25 w62 G42 F91 hc52
             have D197 : Dj (fp10 ++ fr2) ([b25] ++ [b23]) := Dj.app (Dj.of F69.low (low1 G42)) D175
             have D198 : Dj [b7] ([b25] ++ [b23]) := Dj.app (Dj.of (lt1 F70.lt) (low1 G42)) D176
             have D199 : Dj [b8] ([b25] ++ [b23]) := Dj.app (Dj.of (lt1 F71.lt) (low1 G42)) D177
             have D200 : Dj [b13] ([b25] ++ [b23]) := Dj.app (Dj.of (lt1 F72.lt) (low1 G42)) D178
             have D201 : Dj [b16] ([b25] ++ [b23]) := Dj.app (Dj.of F74.low (low1 G42)) D179
             have D202 : Dj fp11 ([b25] ++ [b23]) := Dj.app (Dj.of F75.low (low1 G42)) D180
             have D203 : Dj [b24] ([b25] ++ [b23]) := Dj.app (Dj.of F89.low (low1 G42)) (D188).symm
             have D204 : Dj fp20 ([b25] ++ [b23]) := Dj.app (Dj.of F90.low (low1 G42)) (D195).symm
             replace F69 := F69.chg hc52 Dj.nil
             replace F70 := F70.chg hc52 notNil
             replace F71 := F71.chg hc52 notNil
             replace F72 := F72.chg hc52 notNil
             replace F74 := F74.chg hc52 Dj.nil
             replace F75 := F75.chg hc52 Dj.nil
             replace F88 := F88.chg hc52 Dj.nil
             replace F89 := F89.chg hc52 Dj.nil
             replace F90 := F90.chg hc52 Dj.nil
             replace hB := hB.inS hc52 inNil
             have hSz := hS
             replace hS := hS.inS hc52 inNil
             replace G42 := Nat.le_trans hZ G42
             replace G42 := lowApp (low1 G42) G39
             replace hZ := Nat.le_trans hZ hc52.size
             replace F88 := (F88.sl encI_ok)
             refine wS_end (by kernel_rfl) ?_
             refine eX_KH hS ?_
             refine wH_done (by kernel_rfl) ?_
             refine eX_tail ?_
             obtain ⟨_, hk11, hm⟩ := bindE hm
             replace hk11 := apE hk11
             refine wS_appendR (k := 1) (enc := encI) (ll := (l9 : List (List (Int)))) (ll2 := (([([x7, x8] : List (Int))] : List (List (Int))) : List (List (Int)))) (d := 127) (t := 26) (T := 32) (A := A11) (A2 := (some ⟨b25, 0, none⟩)) (cap := cap11) (cap2 := 1) (by kernel_rfl) el26 F69 F91 (by rfl) D197 hk11 ?_
             intro w63 fp21 A23 cap23 F92 hc53 hp11
             have G43 := lowApp (low_ap (low_inl G15) hZ hp11) (lowApp (low_inr G15) (low_inr G42))
             have D205 : Dj [b7] (fp21 ++ (fr2 ++ [b23])) := Dj.app (Dj.ap (Dj.inl (D50).symm) (lt1 F70.lt) hp11) (Dj.app (Dj.inr (D50).symm) (Dj.inr D198))
             have D206 : Dj [b8] (fp21 ++ (fr2 ++ [b23])) := Dj.app (Dj.ap (Dj.inl (D54).symm) (lt1 F71.lt) hp11) (Dj.app (Dj.inr (D54).symm) (Dj.inr D199))
             have D207 : Dj [b13] (fp21 ++ (fr2 ++ [b23])) := Dj.app (Dj.ap (Dj.inl (D67).symm) (lt1 F72.lt) hp11) (Dj.app (Dj.inr (D67).symm) (Dj.inr D200))
             have D208 : Dj [b16] (fp21 ++ (fr2 ++ [b23])) := Dj.app (Dj.ap (Dj.inl (D72).symm) F74.low hp11) (Dj.app (Dj.inr (D72).symm) (Dj.inr D201))
             have D209 : Dj fp11 (fp21 ++ (fr2 ++ [b23])) := Dj.app (Dj.ap (Dj.inl (D77).symm) F75.low hp11) (Dj.app (Dj.inr (D77).symm) (Dj.inr D202))
             have D210 : Dj [b24] (fp21 ++ (fr2 ++ [b23])) := Dj.app (Dj.ap (Dj.inl (D182).symm) F89.low hp11) (Dj.app (Dj.inr (D182).symm) (Dj.inr D203))
             have D211 : Dj fp20 (fp21 ++ (fr2 ++ [b23])) := Dj.app (Dj.ap (Dj.inl (D189).symm) F90.low hp11) (Dj.app (Dj.inr (D189).symm) (Dj.inr D204))
             replace F70 := F70.chg hc53 (dj1 (Dj.inl (D50).symm))
             replace F71 := F71.chg hc53 (dj1 (Dj.inl (D54).symm))
             replace F72 := F72.chg hc53 (dj1 (Dj.inl (D67).symm))
             replace F74 := F74.chg hc53 (Dj.inl (D72).symm)
             replace F75 := F75.chg hc53 (Dj.inl (D77).symm)
             replace F89 := F89.chg hc53 (Dj.inl (D182).symm)
             replace F90 := F90.chg hc53 (Dj.inl (D189).symm)
             replace hB := hB.inS hc53 (memS_inl (inLow G15))
             replace hZ := Nat.le_trans hZ hc53.size
             refine wS_pure 2 [(6, .slice A23 (l9 ++ (([([x7, x8] : List (Int))] : List (List (Int))))).length cap23), (4, .slice A22 (l7 ++ (([(x25, x26, x27, x28, x29)] : List (Int × Int × Int × Int × Int)))).length cap22)] (by kernel_rfl) ?_
             refine wS_end (by rfl) ?_
             have hq : (some ((l7 ++ (([(x25, x26, x27, x28, x29)] : List (Int × Int × Int × Int × Int))), l9 ++ (([([x7, x8] : List (Int))] : List (List (Int)))))) : Option ((List (Int × Int × Int × Int × Int)) × (List (List (Int))))) = some _ := hm
             replace hq := someE hq
             subst hq
             exact eX_J (fun hst => ⟨l7 ++ (([(x25, x26, x27, x28, x29)] : List (Int × Int × Int × Int × Int))), A22, cap22, fp20, l9 ++ (([([x7, x8] : List (Int))] : List (List (Int)))), A23, cap23, fp21, (fr2 ++ [b23]), rfl, Fr.of hst (by kernel_rfl), F75, F90, F92, G41, G43, D194, (D211).symm, D209, hB, hZ⟩)
            ·skip
             refine wS_row1 (k := 1) (enc := encI) (l := ([x7, x8] : List (Int))) (d := 126) (t := 26) (T := 32) (B := (some ⟨b23, 0, none⟩)) (c := 2) (by kernel_rfl) el26 F88 ?_
             intro b26 w64 G44 F93 hc54
             have D212 : Dj fp8 ([b26] ++ [b23]) := Dj.app (Dj.of F67.low (low1 G44)) D174
             have D213 : Dj (fp10 ++ fr2) ([b26] ++ [b23]) := Dj.app (Dj.of F69.low (low1 G44)) D175
             have D214 : Dj [b7] ([b26] ++ [b23]) := Dj.app (Dj.of (lt1 F70.lt) (low1 G44)) D176
             have D215 : Dj [b8] ([b26] ++ [b23]) := Dj.app (Dj.of (lt1 F71.lt) (low1 G44)) D177
             have D216 : Dj [b13] ([b26] ++ [b23]) := Dj.app (Dj.of (lt1 F72.lt) (low1 G44)) D178
             have D217 : Dj [b16] ([b26] ++ [b23]) := Dj.app (Dj.of F74.low (low1 G44)) D179
             have D218 : Dj fp11 ([b26] ++ [b23]) := Dj.app (Dj.of F75.low (low1 G44)) D180
             have D219 : Dj [b24] ([b26] ++ [b23]) := Dj.app (Dj.of F89.low (low1 G44)) (D188).symm
             replace F67 := F67.chg hc54 Dj.nil
             replace F69 := F69.chg hc54 Dj.nil
             replace F70 := F70.chg hc54 notNil
             replace F71 := F71.chg hc54 notNil
             replace F72 := F72.chg hc54 notNil
             replace F74 := F74.chg hc54 Dj.nil
             replace F75 := F75.chg hc54 Dj.nil
             replace F88 := F88.chg hc54 Dj.nil
             replace F89 := F89.chg hc54 Dj.nil
             replace hB := hB.inS hc54 inNil
             have hSz := hS
             replace hS := hS.inS hc54 inNil
             replace G44 := Nat.le_trans hZ G44
             replace G44 := lowApp (low1 G44) G39
             replace hZ := Nat.le_trans hZ hc54.size
             replace F88 := (F88.sl encI_ok)
             refine wS_end (by kernel_rfl) ?_
             refine eX_KH hS ?_
             refine wH_all [3] (by rfl) (by kernel_rfl) (by simp) ⟨⟨by kernel_rfl, ?_⟩, trivial⟩
             obtain ⟨_, hk12, hm⟩ := bindE hm
             replace hk12 := apE hk12
             refine wS_append (enc := encIIIII) (l := (l7 : List (Int × Int × Int × Int × Int))) (l2 := (([(x25, x26, x27, x28, x29)] : List (Int × Int × Int × Int × Int)) : List (Int × Int × Int × Int × Int))) (d := 121) (t := 51) (T := 58) (A := A9) (A2 := (some ⟨b24, 0, none⟩)) (cap := cap9) (cap2 := 1) (by kernel_rfl) el51 encIIIII_ok F67 (F89.sl encIIIII_ok) (by rfl) hk12 ?_
             intro w65 fp22 A24 cap24 F94 hc55 hp12
             have G45 := low_ap G13 hZ hp12
             have D220 : Dj (fp10 ++ fr2) fp22 := Dj.ap D32 F69.low hp12
             have D221 : Dj [b7] fp22 := Dj.ap (D48).symm (lt1 F70.lt) hp12
             have D222 : Dj [b8] fp22 := Dj.ap (D52).symm (lt1 F71.lt) hp12
             have D223 : Dj [b13] fp22 := Dj.ap (D65).symm (lt1 F72.lt) hp12
             have D224 : Dj [b16] fp22 := Dj.ap (D70).symm F74.low hp12
             have D225 : Dj fp11 fp22 := Dj.ap (D76).symm F75.low hp12
             have D226 : Dj [b23] fp22 := Dj.ap (D174).symm F88.low hp12
             have D227 : Dj [b24] fp22 := Dj.ap (D181).symm F89.low hp12
             have D228 : Dj ([b26] ++ [b23]) fp22 := Dj.ap (D212).symm F93.low hp12
             replace F69 := F69.chg hc55 D32
             replace F70 := F70.chg hc55 (dj1 (D48).symm)
             replace F71 := F71.chg hc55 (dj1 (D52).symm)
             replace F72 := F72.chg hc55 (dj1 (D65).symm)
             replace F74 := F74.chg hc55 (D70).symm
             replace F75 := F75.chg hc55 (D76).symm
             replace F88 := F88.chg hc55 (D174).symm
             replace F89 := F89.chg hc55 (D181).symm
             replace F93 := F93.chg hc55 (D212).symm
             replace hB := hB.inS hc55 (inLow G13)
             have hSz := hS
             replace hS := hS.trans hc55
             have Sn5 := sin_ap (Sg := fp8) (inMem (fun x hx => hx)) hSz.size hp12
             replace hZ := Nat.le_trans hZ hc55.size
             refine wS_end (by kernel_rfl) ?_
             refine eX_KH hS ?_
             refine wH_done (by kernel_rfl) ?_
             refine eX_tail ?_
             obtain ⟨_, hk13, hm⟩ := bindE hm
             replace hk13 := apE hk13
             refine wS_appendR (k := 1) (enc := encI) (ll := (l9 : List (List (Int)))) (ll2 := (([([x7, x8] : List (Int))] : List (List (Int))) : List (List (Int)))) (d := 127) (t := 26) (T := 32) (A := A11) (A2 := (some ⟨b26, 0, none⟩)) (cap := cap11) (cap2 := 1) (by kernel_rfl) el26 F69 F93 (by rfl) D213 hk13 ?_
             intro w66 fp23 A25 cap25 F95 hc56 hp13
             have G46 := lowApp (low_ap (low_inl G15) hZ hp13) (lowApp (low_inr G15) (low_inr G44))
             have D229 : Dj [b7] (fp23 ++ (fr2 ++ [b23])) := Dj.app (Dj.ap (Dj.inl (D50).symm) (lt1 F70.lt) hp13) (Dj.app (Dj.inr (D50).symm) (Dj.inr D214))
             have D230 : Dj [b8] (fp23 ++ (fr2 ++ [b23])) := Dj.app (Dj.ap (Dj.inl (D54).symm) (lt1 F71.lt) hp13) (Dj.app (Dj.inr (D54).symm) (Dj.inr D215))
             have D231 : Dj [b13] (fp23 ++ (fr2 ++ [b23])) := Dj.app (Dj.ap (Dj.inl (D67).symm) (lt1 F72.lt) hp13) (Dj.app (Dj.inr (D67).symm) (Dj.inr D216))
             have D232 : Dj [b16] (fp23 ++ (fr2 ++ [b23])) := Dj.app (Dj.ap (Dj.inl (D72).symm) F74.low hp13) (Dj.app (Dj.inr (D72).symm) (Dj.inr D217))
             have D233 : Dj fp11 (fp23 ++ (fr2 ++ [b23])) := Dj.app (Dj.ap (Dj.inl (D77).symm) F75.low hp13) (Dj.app (Dj.inr (D77).symm) (Dj.inr D218))
             have D234 : Dj [b24] (fp23 ++ (fr2 ++ [b23])) := Dj.app (Dj.ap (Dj.inl (D182).symm) F89.low hp13) (Dj.app (Dj.inr (D182).symm) (Dj.inr D219))
             have D235 : Dj fp22 (fp23 ++ (fr2 ++ [b23])) := Dj.app (Dj.ap (Dj.inl (D220).symm) F94.low hp13) (Dj.app (Dj.inr (D220).symm) (Dj.inr (D228).symm))
             replace F70 := F70.chg hc56 (dj1 (Dj.inl (D50).symm))
             replace F71 := F71.chg hc56 (dj1 (Dj.inl (D54).symm))
             replace F72 := F72.chg hc56 (dj1 (Dj.inl (D67).symm))
             replace F74 := F74.chg hc56 (Dj.inl (D72).symm)
             replace F75 := F75.chg hc56 (Dj.inl (D77).symm)
             replace F89 := F89.chg hc56 (Dj.inl (D182).symm)
             replace F94 := F94.chg hc56 (Dj.inl (D220).symm)
             replace hB := hB.inS hc56 (memS_inl (inLow G15))
             replace hZ := Nat.le_trans hZ hc56.size
             refine wS_pure 2 [(6, .slice A25 (l9 ++ (([([x7, x8] : List (Int))] : List (List (Int))))).length cap25), (4, .slice A24 (l7 ++ (([(x25, x26, x27, x28, x29)] : List (Int × Int × Int × Int × Int)))).length cap24)] (by kernel_rfl) ?_
             refine wS_end (by rfl) ?_
             have hq : (some ((l7 ++ (([(x25, x26, x27, x28, x29)] : List (Int × Int × Int × Int × Int))), l9 ++ (([([x7, x8] : List (Int))] : List (List (Int)))))) : Option ((List (Int × Int × Int × Int × Int)) × (List (List (Int))))) = some _ := hm
             replace hq := someE hq
             subst hq
             exact eX_J (fun hst => ⟨l7 ++ (([(x25, x26, x27, x28, x29)] : List (Int × Int × Int × Int × Int))), A24, cap24, fp22, l9 ++ (([([x7, x8] : List (Int))] : List (List (Int)))), A25, cap25, fp23, (fr2 ++ [b23]), rfl, Fr.of hst (by kernel_rfl), F75, F94, F95, G45, G46, D225, (D235).symm, D233, hB, hZ⟩)
           ·skip
            refine wS_row1 (k := 1) (enc := encI) (l := ([x7, x8] : List (Int))) (d := 126) (t := 26) (T := 32) (B := (some ⟨b23, 0, none⟩)) (c := 2) (by kernel_rfl) el26 F88 ?_
            intro b27 w67 G47 F96 hc57
            have D236 : Dj fp8 ([b27] ++ [b23]) := Dj.app (Dj.of F67.low (low1 G47)) D174
            have D237 : Dj (fp10 ++ fr2) ([b27] ++ [b23]) := Dj.app (Dj.of F69.low (low1 G47)) D175
            have D238 : Dj [b7] ([b27] ++ [b23]) := Dj.app (Dj.of (lt1 F70.lt) (low1 G47)) D176
            have D239 : Dj [b8] ([b27] ++ [b23]) := Dj.app (Dj.of (lt1 F71.lt) (low1 G47)) D177
            have D240 : Dj [b13] ([b27] ++ [b23]) := Dj.app (Dj.of (lt1 F72.lt) (low1 G47)) D178
            have D241 : Dj [b16] ([b27] ++ [b23]) := Dj.app (Dj.of F74.low (low1 G47)) D179
            have D242 : Dj fp11 ([b27] ++ [b23]) := Dj.app (Dj.of F75.low (low1 G47)) D180
            replace F67 := F67.chg hc57 Dj.nil
            replace F69 := F69.chg hc57 Dj.nil
            replace F70 := F70.chg hc57 notNil
            replace F71 := F71.chg hc57 notNil
            replace F72 := F72.chg hc57 notNil
            replace F74 := F74.chg hc57 Dj.nil
            replace F75 := F75.chg hc57 Dj.nil
            replace F88 := F88.chg hc57 Dj.nil
            replace hB := hB.inS hc57 inNil
            have hSz := hS
            replace hS := hS.inS hc57 inNil
            replace G47 := Nat.le_trans hZ G47
            replace G47 := lowApp (low1 G47) G39
            replace hZ := Nat.le_trans hZ hc57.size
            replace F88 := (F88.sl encI_ok)
            refine wS_end (by kernel_rfl) ?_
            refine eX_KH hS ?_
            refine wH_all [2] (by rfl) (by kernel_rfl) (by simp) ⟨⟨by kernel_rfl, ?_⟩, trivial⟩
            refine wS_bs (enc := encIIIII) ([(x25, x26, x27, x28, x29)] : List (Int × Int × Int × Int × Int)) [.int .i64 (x25), .int .i64 (x26), .int .i64 (x27), .int .i64 (x28), .int .i64 (x29)] (d := 120) (t := 51) (T := 58) (n := 1) (ps := [(0, .agg #[.int .i64 (x25), .int .i64 (x26), .int .i64 (x27), .int .i64 (x28), .int .i64 (x29)])]) (by kernel_rfl) el51 encIIIII_ok (by rfl) (by omega) (by omega) (by kernel_rfl) (by rfl) ?_
            intro b28 w68 G48 F97 hc58
            have D243 : Dj fp8 [b28] := Dj.of F67.low (low1 G48)
            have D244 : Dj (fp10 ++ fr2) [b28] := Dj.of F69.low (low1 G48)
            have D245 : Dj [b7] [b28] := Dj.of (lt1 F70.lt) (low1 G48)
            have D246 : Dj [b8] [b28] := Dj.of (lt1 F71.lt) (low1 G48)
            have D247 : Dj [b13] [b28] := Dj.of (lt1 F72.lt) (low1 G48)
            have D248 : Dj [b16] [b28] := Dj.of F74.low (low1 G48)
            have D249 : Dj fp11 [b28] := Dj.of F75.low (low1 G48)
            have D250 : Dj [b23] [b28] := Dj.of F88.low (low1 G48)
            have D251 : Dj ([b27] ++ [b23]) [b28] := Dj.of F96.low (low1 G48)
            replace F67 := F67.chg hc58 Dj.nil
            replace F69 := F69.chg hc58 Dj.nil
            replace F70 := F70.chg hc58 notNil
            replace F71 := F71.chg hc58 notNil
            replace F72 := F72.chg hc58 notNil
            replace F74 := F74.chg hc58 Dj.nil
            replace F75 := F75.chg hc58 Dj.nil
            replace F88 := F88.chg hc58 Dj.nil
            replace F96 := F96.chg hc58 Dj.nil
            replace hB := hB.inS hc58 inNil
            have hSz := hS
            replace hS := hS.inS hc58 inNil
            have Gz12 := low1 (Nat.le_trans hSz.size G48)
            replace G48 := Nat.le_trans hZ G48
            replace G48 := low1 G48
            replace hZ := Nat.le_trans hZ hc58.size
            refine wS_end (by kernel_rfl) ?_
            refine eX_KH hS ?_
            refine wH_all [3] (by rfl) (by kernel_rfl) (by simp) ⟨⟨by kernel_rfl, ?_⟩, trivial⟩
            obtain ⟨_, hk14, hm⟩ := bindE hm
            replace hk14 := apE hk14
            refine wS_append (enc := encIIIII) (l := (l7 : List (Int × Int × Int × Int × Int))) (l2 := (([(x25, x26, x27, x28, x29)] : List (Int × Int × Int × Int × Int)) : List (Int × Int × Int × Int × Int))) (d := 121) (t := 51) (T := 58) (A := A9) (A2 := (some ⟨b28, 0, none⟩)) (cap := cap9) (cap2 := 1) (by kernel_rfl) el51 encIIIII_ok F67 (F97.sl encIIIII_ok) (by rfl) hk14 ?_
            intro w69 fp24 A26 cap26 F98 hc59 hp14
            have G49 := low_ap G13 hZ hp14
            have D252 : Dj (fp10 ++ fr2) fp24 := Dj.ap D32 F69.low hp14
            have D253 : Dj [b7] fp24 := Dj.ap (D48).symm (lt1 F70.lt) hp14
            have D254 : Dj [b8] fp24 := Dj.ap (D52).symm (lt1 F71.lt) hp14
            have D255 : Dj [b13] fp24 := Dj.ap (D65).symm (lt1 F72.lt) hp14
            have D256 : Dj [b16] fp24 := Dj.ap (D70).symm F74.low hp14
            have D257 : Dj fp11 fp24 := Dj.ap (D76).symm F75.low hp14
            have D258 : Dj [b23] fp24 := Dj.ap (D174).symm F88.low hp14
            have D259 : Dj ([b27] ++ [b23]) fp24 := Dj.ap (D236).symm F96.low hp14
            have D260 : Dj [b28] fp24 := Dj.ap (D243).symm F97.low hp14
            replace F69 := F69.chg hc59 D32
            replace F70 := F70.chg hc59 (dj1 (D48).symm)
            replace F71 := F71.chg hc59 (dj1 (D52).symm)
            replace F72 := F72.chg hc59 (dj1 (D65).symm)
            replace F74 := F74.chg hc59 (D70).symm
            replace F75 := F75.chg hc59 (D76).symm
            replace F88 := F88.chg hc59 (D174).symm
            replace F96 := F96.chg hc59 (D236).symm
            replace F97 := F97.chg hc59 (D243).symm
            replace hB := hB.inS hc59 (inLow G13)
            have hSz := hS
            replace hS := hS.trans hc59
            have Sn6 := sin_ap (Sg := fp8) (inMem (fun x hx => hx)) hSz.size hp14
            replace hZ := Nat.le_trans hZ hc59.size
            refine wS_end (by kernel_rfl) ?_
            refine eX_KH hS ?_
            refine wH_done (by kernel_rfl) ?_
            refine eX_tail ?_
            obtain ⟨_, hk15, hm⟩ := bindE hm
            replace hk15 := apE hk15
            refine wS_appendR (k := 1) (enc := encI) (ll := (l9 : List (List (Int)))) (ll2 := (([([x7, x8] : List (Int))] : List (List (Int))) : List (List (Int)))) (d := 127) (t := 26) (T := 32) (A := A11) (A2 := (some ⟨b27, 0, none⟩)) (cap := cap11) (cap2 := 1) (by kernel_rfl) el26 F69 F96 (by rfl) D237 hk15 ?_
            intro w70 fp25 A27 cap27 F99 hc60 hp15
            have G50 := lowApp (low_ap (low_inl G15) hZ hp15) (lowApp (low_inr G15) (low_inr G47))
            have D261 : Dj [b7] (fp25 ++ (fr2 ++ [b23])) := Dj.app (Dj.ap (Dj.inl (D50).symm) (lt1 F70.lt) hp15) (Dj.app (Dj.inr (D50).symm) (Dj.inr D238))
            have D262 : Dj [b8] (fp25 ++ (fr2 ++ [b23])) := Dj.app (Dj.ap (Dj.inl (D54).symm) (lt1 F71.lt) hp15) (Dj.app (Dj.inr (D54).symm) (Dj.inr D239))
            have D263 : Dj [b13] (fp25 ++ (fr2 ++ [b23])) := Dj.app (Dj.ap (Dj.inl (D67).symm) (lt1 F72.lt) hp15) (Dj.app (Dj.inr (D67).symm) (Dj.inr D240))
            have D264 : Dj [b16] (fp25 ++ (fr2 ++ [b23])) := Dj.app (Dj.ap (Dj.inl (D72).symm) F74.low hp15) (Dj.app (Dj.inr (D72).symm) (Dj.inr D241))
            have D265 : Dj fp11 (fp25 ++ (fr2 ++ [b23])) := Dj.app (Dj.ap (Dj.inl (D77).symm) F75.low hp15) (Dj.app (Dj.inr (D77).symm) (Dj.inr D242))
            have D266 : Dj [b28] (fp25 ++ (fr2 ++ [b23])) := Dj.app (Dj.ap (Dj.inl (D244).symm) F97.low hp15) (Dj.app (Dj.inr (D244).symm) (Dj.inr (D251).symm))
            have D267 : Dj fp24 (fp25 ++ (fr2 ++ [b23])) := Dj.app (Dj.ap (Dj.inl (D252).symm) F98.low hp15) (Dj.app (Dj.inr (D252).symm) (Dj.inr (D259).symm))
            replace F70 := F70.chg hc60 (dj1 (Dj.inl (D50).symm))
            replace F71 := F71.chg hc60 (dj1 (Dj.inl (D54).symm))
            replace F72 := F72.chg hc60 (dj1 (Dj.inl (D67).symm))
            replace F74 := F74.chg hc60 (Dj.inl (D72).symm)
            replace F75 := F75.chg hc60 (Dj.inl (D77).symm)
            replace F97 := F97.chg hc60 (Dj.inl (D244).symm)
            replace F98 := F98.chg hc60 (Dj.inl (D252).symm)
            replace hB := hB.inS hc60 (memS_inl (inLow G15))
            replace hZ := Nat.le_trans hZ hc60.size
            refine wS_pure 2 [(6, .slice A27 (l9 ++ (([([x7, x8] : List (Int))] : List (List (Int))))).length cap27), (4, .slice A26 (l7 ++ (([(x25, x26, x27, x28, x29)] : List (Int × Int × Int × Int × Int)))).length cap26)] (by kernel_rfl) ?_
            refine wS_end (by rfl) ?_
            have hq : (some ((l7 ++ (([(x25, x26, x27, x28, x29)] : List (Int × Int × Int × Int × Int))), l9 ++ (([([x7, x8] : List (Int))] : List (List (Int)))))) : Option ((List (Int × Int × Int × Int × Int)) × (List (List (Int))))) = some _ := hm
            replace hq := someE hq
            subst hq
            exact eX_J (fun hst => ⟨l7 ++ (([(x25, x26, x27, x28, x29)] : List (Int × Int × Int × Int × Int))), A26, cap26, fp24, l9 ++ (([([x7, x8] : List (Int))] : List (List (Int)))), A27, cap27, fp25, (fr2 ++ [b23]), rfl, Fr.of hst (by kernel_rfl), F75, F98, F99, G49, G50, D257, (D267).symm, D265, hB, hZ⟩)
         ·rintro a' w71 ⟨l10, A14, cap14, fp12, l11, A15, cap15, fp13, fr3, hJ, hF11, F100, F101, F102, G51, G52, D268, D269, D270, hB, hZ⟩
          subst hJ
          refine Fr.goX hF11 (by kernel_rfl) ?_
          refine eX_block ?_
          have hq : (some (Ctl.next ((l10, y8 ++ (([((l7).length : Int)] : List (Int))), l11))) : Option (Ctl ((List (Int × Int × Int × Int × Int)) × (List (Int)) × (List (List (Int)))) (Sum ((List (List (Int)))) ((List (List (Int))) × (Bool))))) = some _ := hm
          replace hq := someE hq
          subst hq
          exact eX_next hx3 (fun hst => ⟨l10, A14, cap14, fp12, y8 ++ (([((l7).length : Int)] : List (Int))), A13, cap13, fp11, l11, A15, cap15, fp13, fr3, rfl, Fr.of hst (by kernel_rfl), F101, F100, F102, G51, G26, G52, D268, D269, (D270).symm, hB, hZ⟩)
    ·have hm := condF hb3 hm
     refine cW_exit ?_
     refine eX_then_exit ?_
     have hq : (some (Ctl.out (Sum.inl l9)) : Option (Ctl ((List (Int × Int × Int × Int × Int)) × (List (Int)) × (List (List (Int)))) (Sum ((List (List (Int)))) ((List (List (Int))) × (Bool))))) = some _ := hm
     replace hq := someE hq
     subst hq
     refine eX_outX hx3 (fun hr8 => ?_)
     replace hr8 := hr8.symm
     subst hr8
     refine eX_block_hit ?_
     exact eX_J (fun hst => ⟨l9, A11, cap11, fp10, fr2, rfl, Fr.of hst (by kernel_rfl), F19, G15, hB, hZ⟩)
   ·rintro a' w72 ⟨l6, A8, cap8, fp7, fr1, hJ, hF12, F103, G53, hB, hZ⟩
    subst hJ
    refine Fr.goX hF12 (by kernel_rfl) ?_
    refine eX_then ?_
    refine cW_seq ?_
    refine cW_region ?_
    refine wS_pure 3 [(3, .bool (true)), (2, .slice A8 (l6).length cap8), (128, .slice A8 (l6).length cap8)] (by kernel_rfl) ?_
    refine wS_end (by rfl) ?_
    refine eX_then ?_
    refine cW_ret ?_
    have hq : (some ((l6, true)) : Option ((List (List (Int))) × (Bool))) = some _ := hm
    replace hq := someE hq
    subst hq
    refine eX_ret (vs := [.slice A8 (l6).length cap8, .bool (true)]) [.tmp 2, .tmp 3] (by rfl) ⟨by (show lkE _ _ _ = _); kernel_rfl, ⟨by (show lkE _ _ _ = _); kernel_rfl, trivial⟩⟩ ?_
    exact ⟨A8, cap8, fp7, fr1, rfl, F103, G53, hB⟩

set_option maxRecDepth 100000 in
/-- spec.R8Joins -/
theorem c_spec_R8Joins {w0 : World} {l0 : List (Int)} {A0 : Option Addr} {cap0 : Nat} {fp0 : List Nat} {p1 : Int} {r : (List (List (Int)))} (hm : m_spec_R8Joins l0 p1 = some r) (F0 : Sl 1 encU w0 fp0 A0 l0) :
  Calls Try.prog 9 #[.slice A0 (l0).length cap0, .int .i64 (p1)] w0 fun e w' => ∃ A100 cap100 fp100 fr100, e = .returned (.slice A100 (r).length cap100) ∧ OwR 1 encI 32 2 w' fp100 fr100 A100 cap100 r ∧ (∀ x ∈ fp100 ++ fr100, w0.heap.size ≤ x) ∧ Chg [] w0 w' := by
 have L0 := F0.low
 have hB : Chg [] w0 w0 := Chg.refl _ _
 have hZ := Nat.le_refl w0.heap.size
 unfold m_spec_R8Joins at hm
 refine enterE (N := 87) Try.func9 (by rfl) Try.ntmps9 (by simp) [(0, .slice A0 (l0).length cap0), (1, .int .i64 (p1))] (by rfl) (by kernel_rfl) (fun a => ?_)
 refine cW_seq ?_
 refine cW_region ?_
 refine wS_pure 1 [(4, .slice none 0 0)] (by kernel_rfl) ?_
 refine wS_end (by rfl) ?_
 refine eX_then ?_
 refine cW_seq ?_
 refine cW_region ?_
 refine wS_pure 1 [(13, .slice A0 (l0).length cap0)] (by kernel_rfl) ?_
 obtain ⟨y1, hy1, hm⟩ := bindE hm
 refine wS_calls (d := 14) (f := 21) (vs := [.slice A0 (l0).length cap0]) (by kernel_rfl) ent21 (c_spec_l00From hy1 F0) ?_
 rintro _ w1 ⟨b1, rfl, F1, G1, hc1⟩
 replace F0 := F0.chg hc1 Dj.nil
 replace hB := hB.inS hc1 inNil
 replace G1 := Nat.le_trans hZ G1
 replace hZ := Nat.le_trans hZ hc1.size
 refine ⟨.pointer (some ⟨b1, 0, none⟩), rfl, ?_⟩
 refine wS_pure 1 [(5, .pointer (some ⟨b1, 0, none⟩))] (by kernel_rfl) ?_
 refine wS_end (by rfl) ?_
 refine eX_then ?_
 refine cW_seq ?_
 refine cW_region ?_
 refine wS_rows0 (k := 1) (enc := encI) (d := 15) (t := 26) (T := 32) (T2 := 2) (by kernel_rfl) el26 ?_
 intro b2 w2 G2 F2 hc2
 have D1 : Dj [b1] ([b2] ++ []) := Dj.of (lt1 F1.lt) (lowApp (low1 G2) lowNil)
 replace F0 := F0.chg hc2 Dj.nil
 replace F1 := F1.chg hc2 notNil
 replace hB := hB.inS hc2 inNil
 replace G2 := Nat.le_trans hZ G2
 replace G2 := low1 G2
 replace hZ := Nat.le_trans hZ hc2.size
 replace G2 := lowApp G2 lowNil
 refine wS_pure 1 [(6, .slice (some ⟨b2, 0, none⟩) (([] : List (List (Int)))).length 0)] (by kernel_rfl) ?_
 refine wS_end (by rfl) ?_
 refine eX_then ?_
 refine cW_seq ?_
 refine cW_region ?_
 refine wS_bs0 (α := Int) (enc := encI) (d := 16) (t := 32) (T := 2) (by kernel_rfl) el32 ?_
 intro b3 w3 G3 F3 hc3
 have D2 : Dj [b1] [b3] := Dj.of (lt1 F1.lt) (low1 G3)
 have D3 : Dj ([b2] ++ []) [b3] := Dj.of F2.low (low1 G3)
 replace F0 := F0.chg hc3 Dj.nil
 replace F1 := F1.chg hc3 notNil
 replace F2 := F2.chg hc3 Dj.nil
 replace hB := hB.inS hc3 inNil
 replace G3 := Nat.le_trans hZ G3
 replace G3 := low1 G3
 replace hZ := Nat.le_trans hZ hc3.size
 refine wS_pure 1 [(7, .slice (some ⟨b3, 0, none⟩) (([] : List (Int))).length 0)] (by kernel_rfl) ?_
 refine wS_end (by rfl) ?_
 refine eX_then ?_
 refine cW_seq ?_
 refine cW_seq ?_
 refine cW_region ?_
 refine wS_pure 1 [(8, .int .i64 (0))] (by kernel_rfl) ?_
 refine wS_end (by rfl) ?_
 refine eX_then ?_
 obtain ⟨r1, hr1, hm⟩ := bindE hm
 have hm1 := hm
 refine cW_cut (fun a' w' => ∃ l1 : List (Int), ∃ A1 : Option Addr, ∃ cap1 : Nat, ∃ fp1 : List Nat, l1 = r1 ∧ Fr 87 [(1, .int .i64 (p1)), (5, .pointer (some ⟨b1, 0, none⟩)), (6, .slice (some ⟨b2, 0, none⟩) (([] : List (List (Int)))).length 0), (7, .slice A1 (l1).length cap1)] a' ∧ Sl 1 encU w' fp0 A0 l0 ∧ Cl w' b1 79 [.slice A0 (l0).length cap0, .int .i64 (y1.1), .int .u64 (y1.2)] ∧ OwR 1 encI 32 2 w' [b2] [] (some ⟨b2, 0, none⟩) 0 (([] : List (List (Int)))) ∧ Ow 1 encI 2 w' fp1 A1 cap1 l1 ∧ (∀ x ∈ fp1, w0.heap.size ≤ x) ∧ Dj [b1] fp1 ∧ Dj ([b2] ++ []) fp1 ∧ Chg [] w0 w' ∧ w0.heap.size ≤ w'.heap.size) ?_ ?_
 ·refine cW_block ?_
  refine cW_loop _ (fun (s1 : (List (Int)) × Int) a' w' => ∃ l3 : List (Int), ∃ A3 : Option Addr, ∃ cap3 : Nat, ∃ fp2 : List Nat, ∃ x1 : Int, (l3, x1) = s1 ∧ Fr 87 [(1, .int .i64 (p1)), (5, .pointer (some ⟨b1, 0, none⟩)), (6, .slice (some ⟨b2, 0, none⟩) (([] : List (List (Int)))).length 0), (7, .slice A3 (l3).length cap3), (8, .int .i64 (x1))] a' ∧ Sl 1 encU w' fp0 A0 l0 ∧ Cl w' b1 79 [.slice A0 (l0).length cap0, .int .i64 (y1.1), .int .u64 (y1.2)] ∧ OwR 1 encI 32 2 w' [b2] [] (some ⟨b2, 0, none⟩) 0 (([] : List (List (Int)))) ∧ Ow 1 encI 2 w' fp2 A3 cap3 l3 ∧ (∀ x ∈ fp2, w0.heap.size ≤ x) ∧ Dj [b1] fp2 ∧ Dj ([b2] ++ []) fp2 ∧ Chg [] w0 w' ∧ w0.heap.size ≤ w'.heap.size) hr1 (fun hst => ⟨([] : List (Int)), (some ⟨b3, 0, none⟩), 0, [b3], 0, rfl, Fr.of hst (by kernel_rfl), F0, F1, F2, F3, G3, D2, D3, hB, hZ⟩) ?_
  rintro _ c1 a' w4 ⟨l3, A3, cap3, fp2, x1, rfl, hF1, F4, F5, F6, F7, G4, D4, D5, hB, hZ⟩ hx1
  refine Fr.goOn hF1 (by kernel_rfl) ?_
  have hm := hx1
  unfold m_spec_R8Joins_s1 at hm
  refine cW_seq ?_
  refine cW_seq ?_
  refine cW_region ?_
  refine wS_pure 3 [(19, .bool (decide (x1 < p1))), (18, .int .i64 (p1)), (17, .int .i64 (x1))] (by kernel_rfl) ?_
  refine wS_end (by rfl) ?_
  refine eX_then ?_
  refine cW_cond (t := decide (x1 < p1)) (by kernel_rfl) (fun hb1 => ?_) (fun hb1 => ?_)
  ·have hm := condT hb1 hm
   refine cW_skip ?_
   refine eX_then ?_
   refine cW_seq ?_
   refine cW_block ?_
   refine cW_region ?_
   refine wS_pure 2 [(23, .int .i64 (x1)), (22, .slice A3 (l3).length cap3)] (by kernel_rfl) ?_
   refine wS_bs (enc := encI) ([x1] : List (Int)) [.int .i64 (x1)] (d := 24) (t := 32) (T := 2) (n := 1) (ps := [(0, .int .i64 (x1))]) (by kernel_rfl) el32 encI_ok (by rfl) (by omega) (by omega) (by kernel_rfl) (by rfl) ?_
   intro b4 w5 G5 F8 hc4
   have D6 : Dj [b1] [b4] := Dj.of (lt1 F5.lt) (low1 G5)
   have D7 : Dj ([b2] ++ []) [b4] := Dj.of F6.low (low1 G5)
   have D8 : Dj fp2 [b4] := Dj.of F7.low (low1 G5)
   replace F4 := F4.chg hc4 Dj.nil
   replace F5 := F5.chg hc4 notNil
   replace F6 := F6.chg hc4 Dj.nil
   replace F7 := F7.chg hc4 Dj.nil
   replace hB := hB.inS hc4 inNil
   replace G5 := Nat.le_trans hZ G5
   replace G5 := low1 G5
   replace hZ := Nat.le_trans hZ hc4.size
   obtain ⟨_, hk1, hm⟩ := bindE hm
   replace hk1 := apE hk1
   refine wS_append (enc := encI) (l := (l3 : List (Int))) (l2 := (([x1] : List (Int)) : List (Int))) (d := 25) (t := 32) (T := 2) (A := A3) (A2 := (some ⟨b4, 0, none⟩)) (cap := cap3) (cap2 := 1) (by kernel_rfl) el32 encI_ok F7 (F8.sl encI_ok) (by rfl) hk1 ?_
   intro w6 fp3 A4 cap4 F9 hc5 hp1
   have G6 := low_ap G4 hZ hp1
   have D9 : Dj [b1] fp3 := Dj.ap D4 (lt1 F5.lt) hp1
   have D10 : Dj ([b2] ++ []) fp3 := Dj.ap D5 F6.low hp1
   have D11 : Dj [b4] fp3 := Dj.ap (D8).symm F8.low hp1
   replace F4 := F4.chg hc5 (Dj.of L0 G4)
   replace F5 := F5.chg hc5 (dj1 D4)
   replace F6 := F6.chg hc5 D5
   replace F8 := F8.chg hc5 (D8).symm
   replace hB := hB.inS hc5 (inLow G4)
   replace hZ := Nat.le_trans hZ hc5.size
   refine wS_pure 1 [(7, .slice A4 (l3 ++ (([x1] : List (Int)))).length cap4)] (by kernel_rfl) ?_
   refine wS_end (by rfl) ?_
   refine eX_block ?_
   refine eX_then ?_
   refine cW_region ?_
   refine wS_pure 3 [(8, .int .i64 (wr (x1 + 1))), (21, .int .i64 (wr (x1 + 1))), (20, .int .i64 (x1))] (by kernel_rfl) ?_
   refine wS_end (by rfl) ?_
   have hq : (some (Ctl.next ((l3 ++ (([x1] : List (Int))), wr (x1 + 1)))) : Option (Ctl ((List (Int)) × Int) ((List (Int))))) = some _ := hm
   replace hq := someE hq
   subst hq
   exact eX_next hx1 (fun hst => ⟨l3 ++ (([x1] : List (Int))), A4, cap4, fp3, wr (x1 + 1), rfl, Fr.of hst (by kernel_rfl), F4, F5, F6, F9, G6, D9, D10, hB, hZ⟩)
  ·have hm := condF hb1 hm
   refine cW_exit ?_
   refine eX_then_exit ?_
   have hq : (some (Ctl.out l3) : Option (Ctl ((List (Int)) × Int) ((List (Int))))) = some _ := hm
   replace hq := someE hq
   subst hq
   refine eX_outX hx1 (fun hr2 => ?_)
   replace hr2 := hr2.symm
   subst hr2
   refine eX_block_hit ?_
   exact eX_J (fun hst => ⟨l3, A3, cap3, fp2, rfl, Fr.of hst (by kernel_rfl), F4, F5, F6, F7, G4, D4, D5, hB, hZ⟩)
 ·rintro a' w7 ⟨l1, A1, cap1, fp1, hJ, hF2, F10, F11, F12, F13, G7, D12, D13, hB, hZ⟩
  subst hJ
  refine Fr.goX hF2 (by kernel_rfl) ?_
  refine eX_then ?_
  refine cW_seq ?_
  obtain ⟨r2, hr3, hm⟩ := bindE hm
  have hm2 := hm
  refine cW_cut (fun a' w' => ∃ l4 : List (List (Int)), ∃ A5 : Option Addr, ∃ cap5 : Nat, ∃ fp4 : List Nat, ∃ fr1 : List Nat, l4 = r2 ∧ Fr 87 [(6, .slice A5 (l4).length cap5)] a' ∧ OwR 1 encI 32 2 w' fp4 fr1 A5 cap5 l4 ∧ (∀ x ∈ (fp4 ++ fr1), w0.heap.size ≤ x) ∧ Chg [] w0 w' ∧ w0.heap.size ≤ w'.heap.size) ?_ ?_
  ·refine cW_block ?_
   refine cW_loop _ (fun (s2 : (List (List (Int))) × (List (Int)) × Int × Int) a' w' => ∃ l5 : List (List (Int)), ∃ A6 : Option Addr, ∃ cap6 : Nat, ∃ fp5 : List Nat, ∃ fr2 : List Nat, ∃ l6 : List (Int), ∃ A7 : Option Addr, ∃ cap7 : Nat, ∃ fp6 : List Nat, ∃ x2 : Int, ∃ x3 : Int, (l5, l6, x2, x3) = s2 ∧ Fr 87 [(1, .int .i64 (p1)), (5, .pointer (some ⟨b1, 0, none⟩)), (6, .slice A6 (l5).length cap6), (7, .slice A7 (l6).length cap7)] a' ∧ Sl 1 encU w' fp0 A0 l0 ∧ Cl w' b1 79 [.slice A0 (l0).length cap0, .int .i64 (x2), .int .u64 (x3)] ∧ OwR 1 encI 32 2 w' fp5 fr2 A6 cap6 l5 ∧ Ow 1 encI 2 w' fp6 A7 cap7 l6 ∧ (∀ x ∈ (fp5 ++ fr2), w0.heap.size ≤ x) ∧ (∀ x ∈ fp6, w0.heap.size ≤ x) ∧ Dj [b1] (fp5 ++ fr2) ∧ Dj fp6 (fp5 ++ fr2) ∧ Dj [b1] fp6 ∧ Chg [] w0 w' ∧ w0.heap.size ≤ w'.heap.size) hr3 (fun hst => ⟨([] : List (List (Int))), (some ⟨b2, 0, none⟩), 0, [b2], [], l1, A1, cap1, fp1, y1.1, y1.2, rfl, Fr.of hst (by kernel_rfl), F10, F11, F12, F13, G2, G7, D1, (D13).symm, D12, hB, hZ⟩) ?_
   rintro _ c2 a' w8 ⟨l5, A6, cap6, fp5, fr2, l6, A7, cap7, fp6, x2, x3, rfl, hF3, F14, F15, F16, F17, G8, G9, D14, D15, D16, hB, hZ⟩ hx2
   refine Fr.goOn hF3 (by kernel_rfl) ?_
   have hm := hx2
   unfold m_spec_R8Joins_s4 at hm
   refine cW_seq ?_
   refine cW_seq ?_
   refine cW_region ?_
   refine wS_pure 3 [(28, .bool (decide ((((l6).length : Int)) > 1))), (27, .int .i64 (((l6).length : Int))), (26, .slice A7 (l6).length cap7)] (by kernel_rfl) ?_
   refine wS_end (by rfl) ?_
   refine eX_then ?_
   refine cW_cond (t := decide ((((l6).length : Int)) > 1)) (by kernel_rfl) (fun hb2 => ?_) (fun hb2 => ?_)
   ·have hm := condT hb2 hm
    refine cW_skip ?_
    refine eX_then ?_
    refine cW_block ?_
    refine cW_seq ?_
    refine cW_region ?_
    refine wS_pure 4 [(32, .int .i64 (wr ((((l6).length : Int)) - 1))), (31, .int .i64 (((l6).length : Int))), (30, .slice A7 (l6).length cap7), (29, .pointer (some ⟨b1, 0, none⟩))] (by kernel_rfl) ?_
    obtain ⟨y2, hy2, hm⟩ := bindE hm
    refine wS_calls (d := 33) (f := 22) (vs := [.pointer (some ⟨b1, 0, none⟩), .int .i64 (wr ((((l6).length : Int)) - 1))]) (by kernel_rfl) ent22 (c_spec_l00Src_pick_bspecl00Src hy2 F14 F15 (Dj.of L0 (low1 G1)).symm) ?_
    rintro _ w9 ⟨rfl, F18, hc6⟩
    replace F14 := F14.chg hc6 (Dj.app (Dj.of L0 (low1 G1)) Dj.nil)
    replace F16 := F16.chg hc6 (Dj.app (D14).symm Dj.nil)
    replace F17 := F17.chg hc6 (Dj.app (D16).symm Dj.nil)
    replace hB := hB.inS hc6 (inApp (inLow (low1 G1)) inNil)
    replace hZ := Nat.le_trans hZ hc6.size
    clear F15
    refine ⟨.int .i64 (y2.1), rfl, ?_⟩
    refine wS_pure 1 [(9, .int .i64 (y2.1))] (by kernel_rfl) ?_
    refine wS_end (by rfl) ?_
    refine eX_then ?_
    refine cW_seq ?_
    refine cW_region ?_
    refine wS_pure 8 [(41, .int .i64 (wr ((wr ((((l6).length : Int)) - 1)) - y2.1))), (40, .int .i64 (y2.1)), (39, .int .i64 (wr ((((l6).length : Int)) - 1))), (38, .int .i64 (((l6).length : Int))), (37, .slice A7 (l6).length cap7), (36, .pointer (some ⟨b1, 0, none⟩)), (35, .int .i64 (wr (y2.1 + 1))), (34, .int .i64 (y2.1))] (by kernel_rfl) ?_
    obtain ⟨y3, hy3, hm⟩ := bindE hm
    refine wS_calls (d := 42) (f := 22) (vs := [.pointer (some ⟨b1, 0, none⟩), .int .i64 (wr ((wr ((((l6).length : Int)) - 1)) - y2.1))]) (by kernel_rfl) ent22 (c_spec_l00Src_pick_bspecl00Src hy3 F14 F18 (Dj.of L0 (low1 G1)).symm) ?_
    rintro _ w10 ⟨rfl, F19, hc7⟩
    replace F14 := F14.chg hc7 (Dj.app (Dj.of L0 (low1 G1)) Dj.nil)
    replace F16 := F16.chg hc7 (Dj.app (D14).symm Dj.nil)
    replace F17 := F17.chg hc7 (Dj.app (D16).symm Dj.nil)
    replace hB := hB.inS hc7 (inApp (inLow (low1 G1)) inNil)
    replace hZ := Nat.le_trans hZ hc7.size
    clear F18
    refine ⟨.int .i64 (y3.1), rfl, ?_⟩
    refine wS_pure 2 [(10, .int .i64 (wr ((wr (y2.1 + 1)) + y3.1))), (43, .int .i64 (wr ((wr (y2.1 + 1)) + y3.1)))] (by kernel_rfl) ?_
    refine wS_end (by rfl) ?_
    refine eX_then ?_
    refine cW_prune [(1, .int .i64 (p1)), (5, .pointer (some ⟨b1, 0, none⟩)), (6, .slice A6 (l5).length cap6), (7, .slice A7 (l6).length cap7), (9, .int .i64 (y2.1)), (10, .int .i64 (wr ((wr (y2.1 + 1)) + y3.1)))] (by kernel_rfl) (by kernel_rfl) (fun a1 => ?_)
    refine cW_seq ?_
    refine cW_region ?_
    refine wS_bs0 (α := Int) (enc := encI) (d := 44) (t := 32) (T := 2) (by kernel_rfl) el32 ?_
    intro b5 w11 G10 F20 hc8
    have D17 : Dj [b1] [b5] := Dj.of (lt1 F19.lt) (low1 G10)
    have D18 : Dj (fp5 ++ fr2) [b5] := Dj.of F16.low (low1 G10)
    have D19 : Dj fp6 [b5] := Dj.of F17.low (low1 G10)
    replace F14 := F14.chg hc8 Dj.nil
    replace F19 := F19.chg hc8 notNil
    replace F16 := F16.chg hc8 Dj.nil
    replace F17 := F17.chg hc8 Dj.nil
    replace hB := hB.inS hc8 inNil
    replace G10 := Nat.le_trans hZ G10
    replace G10 := low1 G10
    replace hZ := Nat.le_trans hZ hc8.size
    refine wS_pure 1 [(11, .slice (some ⟨b5, 0, none⟩) (([] : List (Int))).length 0)] (by kernel_rfl) ?_
    refine wS_end (by rfl) ?_
    refine eX_then ?_
    refine cW_seq ?_
    refine cW_seq ?_
    refine cW_region ?_
    refine wS_pure 1 [(12, .int .i64 (0))] (by kernel_rfl) ?_
    refine wS_end (by rfl) ?_
    refine eX_then ?_
    obtain ⟨r3, hr4, hm⟩ := bindE hm
    have hm3 := hm
    refine cW_cut (fun a' w' => ∃ l7 : List (Int), ∃ A8 : Option Addr, ∃ cap8 : Nat, ∃ fp7 : List Nat, l7 = r3 ∧ Fr 87 [(1, .int .i64 (p1)), (5, .pointer (some ⟨b1, 0, none⟩)), (6, .slice A6 (l5).length cap6), (7, .slice A7 (l6).length cap7), (9, .int .i64 (y2.1)), (10, .int .i64 (wr ((wr (y2.1 + 1)) + y3.1))), (11, .slice A8 (l7).length cap8)] a' ∧ Sl 1 encU w' fp0 A0 l0 ∧ Cl w' b1 79 [.slice A0 (l0).length cap0, .int .i64 (y3.2.1), .int .u64 (y3.2.2)] ∧ OwR 1 encI 32 2 w' fp5 fr2 A6 cap6 l5 ∧ Ow 1 encI 2 w' fp6 A7 cap7 l6 ∧ Ow 1 encI 2 w' fp7 A8 cap8 l7 ∧ (∀ x ∈ fp7, w0.heap.size ≤ x) ∧ Dj [b1] fp7 ∧ Dj (fp5 ++ fr2) fp7 ∧ Dj fp6 fp7 ∧ Chg [] w0 w' ∧ w0.heap.size ≤ w'.heap.size) ?_ ?_
    ·refine cW_block ?_
     refine cW_loop _ (fun (s3 : (List (Int)) × Int) a' w' => ∃ l8 : List (Int), ∃ A9 : Option Addr, ∃ cap9 : Nat, ∃ fp8 : List Nat, ∃ x4 : Int, (l8, x4) = s3 ∧ Fr 87 [(1, .int .i64 (p1)), (5, .pointer (some ⟨b1, 0, none⟩)), (6, .slice A6 (l5).length cap6), (7, .slice A7 (l6).length cap7), (9, .int .i64 (y2.1)), (10, .int .i64 (wr ((wr (y2.1 + 1)) + y3.1))), (11, .slice A9 (l8).length cap9), (12, .int .i64 (x4))] a' ∧ Sl 1 encU w' fp0 A0 l0 ∧ Cl w' b1 79 [.slice A0 (l0).length cap0, .int .i64 (y3.2.1), .int .u64 (y3.2.2)] ∧ OwR 1 encI 32 2 w' fp5 fr2 A6 cap6 l5 ∧ Ow 1 encI 2 w' fp6 A7 cap7 l6 ∧ Ow 1 encI 2 w' fp8 A9 cap9 l8 ∧ (∀ x ∈ fp8, w0.heap.size ≤ x) ∧ Dj [b1] fp8 ∧ Dj (fp5 ++ fr2) fp8 ∧ Dj fp6 fp8 ∧ Chg [] w0 w' ∧ w0.heap.size ≤ w'.heap.size) hr4 (fun hst => ⟨([] : List (Int)), (some ⟨b5, 0, none⟩), 0, [b5], 0, rfl, Fr.of hst (by kernel_rfl), F14, F19, F16, F17, F20, G10, D17, D18, D19, hB, hZ⟩) ?_
     rintro _ c3 a' w12 ⟨l8, A9, cap9, fp8, x4, rfl, hF4, F21, F22, F23, F24, F25, G11, D20, D21, D22, hB, hZ⟩ hx3
     refine Fr.goOn hF4 (by kernel_rfl) ?_
     have hm := hx3
     unfold m_spec_R8Joins_s5 at hm
     refine cW_seq ?_
     refine cW_seq ?_
     refine cW_region ?_
     refine wS_pure 4 [(48, .bool (decide (x4 < (((l6).length : Int))))), (47, .int .i64 (((l6).length : Int))), (46, .slice A7 (l6).length cap7), (45, .int .i64 (x4))] (by kernel_rfl) ?_
     refine wS_end (by rfl) ?_
     refine eX_then ?_
     refine cW_cond (t := decide (x4 < (((l6).length : Int)))) (by kernel_rfl) (fun hb3 => ?_) (fun hb3 => ?_)
     ·have hm := condT hb3 hm
      refine cW_skip ?_
      refine eX_then ?_
      refine cW_seq ?_
      refine cW_block ?_
      obtain ⟨s4, hs1, hm⟩ := bindE hm
      refine cW_cut (fun a' w' => ∃ l9 : List (Int), ∃ A10 : Option Addr, ∃ cap10 : Nat, ∃ fp9 : List Nat, l9 = s4 ∧ Fr 87 [(1, .int .i64 (p1)), (5, .pointer (some ⟨b1, 0, none⟩)), (6, .slice A6 (l5).length cap6), (7, .slice A7 (l6).length cap7), (9, .int .i64 (y2.1)), (10, .int .i64 (wr ((wr (y2.1 + 1)) + y3.1))), (11, .slice A10 (l9).length cap10), (12, .int .i64 (x4))] a' ∧ Sl 1 encU w' fp0 A0 l0 ∧ Cl w' b1 79 [.slice A0 (l0).length cap0, .int .i64 (y3.2.1), .int .u64 (y3.2.2)] ∧ OwR 1 encI 32 2 w' fp5 fr2 A6 cap6 l5 ∧ Ow 1 encI 2 w' fp6 A7 cap7 l6 ∧ Ow 1 encI 2 w' fp9 A10 cap10 l9 ∧ (∀ x ∈ fp9, w0.heap.size ≤ x) ∧ Dj [b1] fp9 ∧ Dj (fp5 ++ fr2) fp9 ∧ Dj fp6 fp9 ∧ Chg [] w0 w' ∧ w0.heap.size ≤ w'.heap.size) ?_ ?_
      ·have hm := hs1
       refine cW_seq ?_
       refine cW_region ?_
       refine wS_pure 4 [(54, .bool (x4 != y2.1)), (53, .bool (x4 != y2.1)), (52, .int .i64 (y2.1)), (51, .int .i64 (x4))] (by kernel_rfl) ?_
       refine wS_bool (x4 != y2.1) (fun hb4 => ?_) (fun hb4 => ?_)
       ·have hm := condT hb4 hm
        rewrite [hb4]
        refine wS_pure 4 [(58, .bool (x4 != (wr ((wr (y2.1 + 1)) + y3.1)))), (57, .bool (x4 != (wr ((wr (y2.1 + 1)) + y3.1)))), (56, .int .i64 (wr ((wr (y2.1 + 1)) + y3.1))), (55, .int .i64 (x4))] (by kernel_rfl) ?_
        refine wS_end (by rfl) ?_
        refine eX_then ?_
        refine cW_cond (t := x4 != (wr ((wr (y2.1 + 1)) + y3.1))) (by kernel_rfl) (fun hb5 => ?_) (fun hb5 => ?_)
        ·have hm := condT hb5 hm
         refine cW_region ?_
         refine wS_pure 3 [(61, .int .i64 (x4)), (60, .slice A7 (l6).length cap7), (59, .slice A9 (l8).length cap9)] (by kernel_rfl) ?_
         obtain ⟨x5, hx4, hm⟩ := bindE hm
         refine wS_idx (d := 62) (T := 32) (A := A7) (n := (l6).length) (cap := cap7) (kd := .i64) (m := x4) (by kernel_rfl) sl32 ((F24.sl encI_ok).is hx4) ?_
         refine wS_load1 (d := 63) (T := 2) (ad := (elA A7 1 (x4) 0)) (v := .int .i64 (x5)) (by kernel_rfl) vt2 (Sl.cell (F24.sl encI_ok) hx4 0 (by rfl)) ?_
         refine wS_bs (enc := encI) ([x5] : List (Int)) [.int .i64 (x5)] (d := 64) (t := 32) (T := 2) (n := 1) (ps := [(0, .int .i64 (x5))]) (by kernel_rfl) el32 encI_ok (by rfl) (by omega) (by omega) (by kernel_rfl) (by rfl) ?_
         intro b6 w13 G12 F26 hc9
         have D23 : Dj [b1] [b6] := Dj.of (lt1 F22.lt) (low1 G12)
         have D24 : Dj (fp5 ++ fr2) [b6] := Dj.of F23.low (low1 G12)
         have D25 : Dj fp6 [b6] := Dj.of F24.low (low1 G12)
         have D26 : Dj fp8 [b6] := Dj.of F25.low (low1 G12)
         replace F21 := F21.chg hc9 Dj.nil
         replace F22 := F22.chg hc9 notNil
         replace F23 := F23.chg hc9 Dj.nil
         replace F24 := F24.chg hc9 Dj.nil
         replace F25 := F25.chg hc9 Dj.nil
         replace hB := hB.inS hc9 inNil
         replace G12 := Nat.le_trans hZ G12
         replace G12 := low1 G12
         replace hZ := Nat.le_trans hZ hc9.size
         obtain ⟨_, hk2, hm⟩ := bindE hm
         replace hk2 := apE hk2
         refine wS_append (enc := encI) (l := (l8 : List (Int))) (l2 := (([x5] : List (Int)) : List (Int))) (d := 65) (t := 32) (T := 2) (A := A9) (A2 := (some ⟨b6, 0, none⟩)) (cap := cap9) (cap2 := 1) (by kernel_rfl) el32 encI_ok F25 (F26.sl encI_ok) (by rfl) hk2 ?_
         intro w14 fp10 A11 cap11 F27 hc10 hp2
         have G13 := low_ap G11 hZ hp2
         have D27 : Dj [b1] fp10 := Dj.ap D20 (lt1 F22.lt) hp2
         have D28 : Dj (fp5 ++ fr2) fp10 := Dj.ap D21 F23.low hp2
         have D29 : Dj fp6 fp10 := Dj.ap D22 F24.low hp2
         have D30 : Dj [b6] fp10 := Dj.ap (D26).symm F26.low hp2
         replace F21 := F21.chg hc10 (Dj.of L0 G11)
         replace F22 := F22.chg hc10 (dj1 D20)
         replace F23 := F23.chg hc10 D21
         replace F24 := F24.chg hc10 D22
         replace F26 := F26.chg hc10 (D26).symm
         replace hB := hB.inS hc10 (inLow G11)
         replace hZ := Nat.le_trans hZ hc10.size
         refine wS_pure 1 [(11, .slice A11 (l8 ++ (([x5] : List (Int)))).length cap11)] (by kernel_rfl) ?_
         refine wS_end (by rfl) ?_
         have hq : (some (l8 ++ (([x5] : List (Int)))) : Option ((List (Int)))) = some _ := hm
         replace hq := someE hq
         subst hq
         exact eX_J (fun hst => ⟨l8 ++ (([x5] : List (Int))), A11, cap11, fp10, rfl, Fr.of hst (by kernel_rfl), F21, F22, F23, F24, F27, G13, D27, D28, D29, hB, hZ⟩)
        ·have hm := condF hb5 hm
         refine cW_skip ?_
         have hq : (some l8 : Option ((List (Int)))) = some _ := hm
         replace hq := someE hq
         subst hq
         exact eX_J (fun hst => ⟨l8, A9, cap9, fp8, rfl, Fr.of hst (by kernel_rfl), F21, F22, F23, F24, F25, G11, D20, D21, D22, hB, hZ⟩)
       ·have hm := condF hb4 hm
        rewrite [hb4]
        refine wS_pure 4 [(58, .bool (false)), (57, undef), (56, undef), (55, undef)] (by kernel_rfl) ?_
        refine wS_end (by rfl) ?_
        refine eX_then ?_
        refine cW_cond_f (by kernel_rfl) ?_
        refine cW_skip ?_
        have hq : (some l8 : Option ((List (Int)))) = some _ := hm
        replace hq := someE hq
        subst hq
        exact eX_J (fun hst => ⟨l8, A9, cap9, fp8, rfl, Fr.of hst (by kernel_rfl), F21, F22, F23, F24, F25, G11, D20, D21, D22, hB, hZ⟩)
      ·rintro a' w15 ⟨l9, A10, cap10, fp9, hJ, hF5, F28, F29, F30, F31, F32, G14, D31, D32, D33, hB, hZ⟩
       subst hJ
       refine Fr.goX hF5 (by kernel_rfl) ?_
       refine eX_block ?_
       refine eX_then ?_
       refine cW_region ?_
       refine wS_pure 3 [(12, .int .i64 (wr (x4 + 1))), (50, .int .i64 (wr (x4 + 1))), (49, .int .i64 (x4))] (by kernel_rfl) ?_
       refine wS_end (by rfl) ?_
       have hq : (some (Ctl.next ((l9, wr (x4 + 1)))) : Option (Ctl ((List (Int)) × Int) ((List (Int))))) = some _ := hm
       replace hq := someE hq
       subst hq
       exact eX_next hx3 (fun hst => ⟨l9, A10, cap10, fp9, wr (x4 + 1), rfl, Fr.of hst (by kernel_rfl), F28, F29, F30, F31, F32, G14, D31, D32, D33, hB, hZ⟩)
     ·have hm := condF hb3 hm
      refine cW_exit ?_
      refine eX_then_exit ?_
      have hq : (some (Ctl.out l8) : Option (Ctl ((List (Int)) × Int) ((List (Int))))) = some _ := hm
      replace hq := someE hq
      subst hq
      refine eX_outX hx3 (fun hr5 => ?_)
      replace hr5 := hr5.symm
      subst hr5
      refine eX_block_hit ?_
      exact eX_J (fun hst => ⟨l8, A9, cap9, fp8, rfl, Fr.of hst (by kernel_rfl), F21, F22, F23, F24, F25, G11, D20, D21, D22, hB, hZ⟩)
    ·rintro a' w16 ⟨l7, A8, cap8, fp7, hJ, hF6, F33, F34, F35, F36, F37, G15, D34, D35, D36, hB, hZ⟩
     subst hJ
     refine Fr.goX hF6 (by kernel_rfl) ?_
     refine eX_then ?_
     refine cW_seq ?_
     refine cW_region ?_
     refine wS_pure 5 [(70, .int .i64 (wr (p1 + (((l5).length : Int))))), (69, .int .i64 (((l5).length : Int))), (68, .slice A6 (l5).length cap6), (67, .int .i64 (p1)), (66, .slice A8 (l7).length cap8)] (by kernel_rfl) ?_
     refine wS_bs (enc := encI) ([wr (p1 + (((l5).length : Int)))] : List (Int)) [.int .i64 (wr (p1 + (((l5).length : Int))))] (d := 71) (t := 32) (T := 2) (n := 1) (ps := [(0, .int .i64 (wr (p1 + (((l5).length : Int)))))]) (by kernel_rfl) el32 encI_ok (by rfl) (by omega) (by omega) (by kernel_rfl) (by rfl) ?_
     intro b7 w17 G16 F38 hc11
     have D37 : Dj [b1] [b7] := Dj.of (lt1 F34.lt) (low1 G16)
     have D38 : Dj (fp5 ++ fr2) [b7] := Dj.of F35.low (low1 G16)
     have D39 : Dj fp6 [b7] := Dj.of F36.low (low1 G16)
     have D40 : Dj fp7 [b7] := Dj.of F37.low (low1 G16)
     replace F33 := F33.chg hc11 Dj.nil
     replace F34 := F34.chg hc11 notNil
     replace F35 := F35.chg hc11 Dj.nil
     replace F36 := F36.chg hc11 Dj.nil
     replace F37 := F37.chg hc11 Dj.nil
     replace hB := hB.inS hc11 inNil
     replace G16 := Nat.le_trans hZ G16
     replace G16 := low1 G16
     replace hZ := Nat.le_trans hZ hc11.size
     obtain ⟨_, hk3, hm⟩ := bindE hm
     replace hk3 := apE hk3
     refine wS_append (enc := encI) (l := (l7 : List (Int))) (l2 := (([wr (p1 + (((l5).length : Int)))] : List (Int)) : List (Int))) (d := 72) (t := 32) (T := 2) (A := A8) (A2 := (some ⟨b7, 0, none⟩)) (cap := cap8) (cap2 := 1) (by kernel_rfl) el32 encI_ok F37 (F38.sl encI_ok) (by rfl) hk3 ?_
     intro w18 fp11 A12 cap12 F39 hc12 hp3
     have G17 := low_ap G15 hZ hp3
     have D41 : Dj [b1] fp11 := Dj.ap D34 (lt1 F34.lt) hp3
     have D42 : Dj (fp5 ++ fr2) fp11 := Dj.ap D35 F35.low hp3
     have D43 : Dj fp6 fp11 := Dj.ap D36 F36.low hp3
     have D44 : Dj [b7] fp11 := Dj.ap (D40).symm F38.low hp3
     replace F33 := F33.chg hc12 (Dj.of L0 G15)
     replace F34 := F34.chg hc12 (dj1 D34)
     replace F35 := F35.chg hc12 D35
     replace F36 := F36.chg hc12 D36
     replace F38 := F38.chg hc12 (D40).symm
     replace hB := hB.inS hc12 (inLow G15)
     replace hZ := Nat.le_trans hZ hc12.size
     refine wS_pure 1 [(11, .slice A12 (l7 ++ (([wr (p1 + (((l5).length : Int)))] : List (Int)))).length cap12)] (by kernel_rfl) ?_
     refine wS_end (by rfl) ?_
     refine eX_then ?_
     refine cW_seq ?_
     refine cW_drawnTail [] 11 (by kernel_rfl) (by kernel_rfl) (fun w19 hc13 => ?_)
     replace F33 := F33.chg hc13 Dj.nil
     replace F34 := F34.chg hc13 notNil
     replace F35 := F35.chg hc13 Dj.nil
     replace F36 := F36.chg hc13 Dj.nil
     replace F38 := F38.chg hc13 Dj.nil
     replace F39 := F39.chg hc13 Dj.nil
     replace hB := hB.inS hc13 inNil
     replace hZ := Nat.le_trans hZ hc13.size
     have hS := Chg.refl [] w19
     have Z1 := F33
     have Z2 := F34
     have Z3 := F35
     have Z4 := F36
     have Z5 := F38
     have Z6 := F39
     refine wH_take [0, 1, 2] [2, 1, 0] [(75, .int .i64 (y2.1)), (74, .slice A7 (l6).length cap7), (73, .slice A6 (l5).length cap6)] (by kernel_rfl) (qT (qT (qB (qL (qB (qT (qT qZ))))))) (by kernel_rfl) ?_
     obtain ⟨x6, hx5, hm⟩ := bindE hm
     refine wH_idx (i := 3) (d := 76) (T := 32) (A := A7) (n := (l6).length) (cap := cap7) (kd := .i64) (m := y2.1) (by kernel_rfl) (qT (qT (qB (qL (qB (qT (qT qZ))))))) (by kernel_rfl) (by kernel_rfl) sl32 ((F36.sl encI_ok).is hx5) ?_
     refine wH_load1 (i := 4) (d := 77) (T := 2) (ad := (elA A7 1 (y2.1) 0)) (v := .int .i64 (x6)) (by kernel_rfl) (qT (qT (qB (qL (qB (qT (qT qZ))))))) (by kernel_rfl) (by kernel_rfl) vt2 (fun W hW => Sl.cell ((Z4.chg hW Dj.nil).sl encI_ok) hx5 0 (by rfl)) ?_
     refine wH_take [5, 6] [6, 5, 4, 3, 2, 1, 0] [(79, .int .i64 (wr ((wr (y2.1 + 1)) + y3.1))), (78, .slice A7 (l6).length cap7)] (by kernel_rfl) (qT (qT (qB (qL (qB (qT (qT qZ))))))) (by kernel_rfl) ?_
     obtain ⟨x7, hx6, hm⟩ := bindE hm
     refine wH_idx (i := 7) (d := 80) (T := 32) (A := A7) (n := (l6).length) (cap := cap7) (kd := .i64) (m := wr ((wr (y2.1 + 1)) + y3.1)) (by kernel_rfl) (qT (qT (qB (qL (qB (qT (qT qZ))))))) (by kernel_rfl) (by kernel_rfl) sl32 ((F36.sl encI_ok).is hx6) ?_
     refine wH_load1 (i := 8) (d := 81) (T := 2) (ad := (elA A7 1 (wr ((wr (y2.1 + 1)) + y3.1)) 0)) (v := .int .i64 (x7)) (by kernel_rfl) (qT (qT (qB (qL (qB (qT (qT qZ))))))) (by kernel_rfl) (by kernel_rfl) vt2 (fun W hW => Sl.cell ((Z4.chg hW Dj.nil).sl encI_ok) hx6 0 (by rfl)) ?_
     refine wH_all [9] (by rfl) (by kernel_rfl) (by simp) ⟨⟨by kernel_rfl, ?_⟩, trivial⟩
     refine wS_bs (enc := encI) ([x6, x7] : List (Int)) [.int .i64 (x6), .int .i64 (x7)] (d := 82) (t := 32) (T := 2) (n := 2) (ps := [(0, .int .i64 (x6)), (1, .int .i64 (x7))]) (by kernel_rfl) el32 encI_ok (by rfl) (by omega) (by omega) (by kernel_rfl) (by rfl) ?_
     intro b8 w20 G18 F40 hc14
     have D45 : Dj [b1] [b8] := Dj.of (lt1 F34.lt) (low1 G18)
     have D46 : Dj (fp5 ++ fr2) [b8] := Dj.of F35.low (low1 G18)
     have D47 : Dj fp6 [b8] := Dj.of F36.low (low1 G18)
     have D48 : Dj [b7] [b8] := Dj.of F38.low (low1 G18)
     have D49 : Dj fp11 [b8] := Dj.of F39.low (low1 G18)
     replace F33 := F33.chg hc14 Dj.nil
     replace F34 := F34.chg hc14 notNil
     replace F35 := F35.chg hc14 Dj.nil
     replace F36 := F36.chg hc14 Dj.nil
     replace F38 := F38.chg hc14 Dj.nil
     replace F39 := F39.chg hc14 Dj.nil
     replace hB := hB.inS hc14 inNil
     have hSz := hS
     replace hS := hS.inS hc14 inNil
     have Gz1 := low1 (Nat.le_trans hSz.size G18)
     replace G18 := Nat.le_trans hZ G18
     replace G18 := low1 G18
     replace hZ := Nat.le_trans hZ hc14.size
     refine wS_end (by kernel_rfl) ?_
     refine eX_KH hS ?_
     refine wH_all [10] (by rfl) (by kernel_rfl) (by simp) ⟨⟨by kernel_rfl, ?_⟩, trivial⟩
     refine wS_row1 (k := 1) (enc := encI) (l := ([x6, x7] : List (Int))) (d := 83) (t := 26) (T := 32) (B := (some ⟨b8, 0, none⟩)) (c := 2) (by kernel_rfl) el26 F40 ?_
     intro b9 w21 G19 F41 hc15
     have D50 : Dj [b1] ([b9] ++ [b8]) := Dj.app (Dj.of (lt1 F34.lt) (low1 G19)) D45
     have D51 : Dj (fp5 ++ fr2) ([b9] ++ [b8]) := Dj.app (Dj.of F35.low (low1 G19)) D46
     have D52 : Dj fp6 ([b9] ++ [b8]) := Dj.app (Dj.of F36.low (low1 G19)) D47
     have D53 : Dj [b7] ([b9] ++ [b8]) := Dj.app (Dj.of F38.low (low1 G19)) D48
     have D54 : Dj fp11 ([b9] ++ [b8]) := Dj.app (Dj.of F39.low (low1 G19)) D49
     replace F33 := F33.chg hc15 Dj.nil
     replace F34 := F34.chg hc15 notNil
     replace F35 := F35.chg hc15 Dj.nil
     replace F36 := F36.chg hc15 Dj.nil
     replace F38 := F38.chg hc15 Dj.nil
     replace F39 := F39.chg hc15 Dj.nil
     replace F40 := F40.chg hc15 Dj.nil
     replace hB := hB.inS hc15 inNil
     have hSz := hS
     replace hS := hS.inS hc15 inNil
     replace G19 := Nat.le_trans hZ G19
     replace G19 := lowApp (low1 G19) G18
     replace hZ := Nat.le_trans hZ hc15.size
     replace F40 := (F40.sl encI_ok)
     refine wS_end (by kernel_rfl) ?_
     refine eX_KH hS ?_
     refine wH_done (by kernel_rfl) ?_
     refine eX_tail ?_
     obtain ⟨_, hk4, hm⟩ := bindE hm
     replace hk4 := apE hk4
     refine wS_appendR (k := 1) (enc := encI) (ll := (l5 : List (List (Int)))) (ll2 := (([([x6, x7] : List (Int))] : List (List (Int))) : List (List (Int)))) (d := 84) (t := 26) (T := 32) (A := A6) (A2 := (some ⟨b9, 0, none⟩)) (cap := cap6) (cap2 := 1) (by kernel_rfl) el26 F35 F41 (by rfl) D51 hk4 ?_
     intro w22 fp12 A13 cap13 F42 hc16 hp4
     have G20 := lowApp (low_ap (low_inl G8) hZ hp4) (lowApp (low_inr G8) (low_inr G19))
     have D55 : Dj [b1] (fp12 ++ (fr2 ++ [b8])) := Dj.app (Dj.ap (Dj.inl D14) (lt1 F34.lt) hp4) (Dj.app (Dj.inr D14) (Dj.inr D50))
     have D56 : Dj fp6 (fp12 ++ (fr2 ++ [b8])) := Dj.app (Dj.ap (Dj.inl D15) F36.low hp4) (Dj.app (Dj.inr D15) (Dj.inr D52))
     have D57 : Dj [b7] (fp12 ++ (fr2 ++ [b8])) := Dj.app (Dj.ap (Dj.inl (D38).symm) F38.low hp4) (Dj.app (Dj.inr (D38).symm) (Dj.inr D53))
     have D58 : Dj fp11 (fp12 ++ (fr2 ++ [b8])) := Dj.app (Dj.ap (Dj.inl (D42).symm) F39.low hp4) (Dj.app (Dj.inr (D42).symm) (Dj.inr D54))
     replace F33 := F33.chg hc16 (Dj.inl (Dj.of L0 G8))
     replace F34 := F34.chg hc16 (dj1 (Dj.inl D14))
     replace F36 := F36.chg hc16 (Dj.inl D15)
     replace F38 := F38.chg hc16 (Dj.inl (D38).symm)
     replace F39 := F39.chg hc16 (Dj.inl (D42).symm)
     replace hB := hB.inS hc16 (memS_inl (inLow G8))
     replace hZ := Nat.le_trans hZ hc16.size
     refine wS_pure 1 [(6, .slice A13 (l5 ++ (([([x6, x7] : List (Int))] : List (List (Int))))).length cap13)] (by kernel_rfl) ?_
     refine wS_end (by rfl) ?_
     refine eX_then ?_
     refine cW_prune [(1, .int .i64 (p1)), (5, .pointer (some ⟨b1, 0, none⟩)), (6, .slice A13 (l5 ++ (([([x6, x7] : List (Int))] : List (List (Int))))).length cap13), (11, .slice A12 (l7 ++ (([wr (p1 + (((l5).length : Int)))] : List (Int)))).length cap12)] (by kernel_rfl) (by kernel_rfl) (fun a2 => ?_)
     refine cW_region ?_
     refine wS_pure 2 [(7, .slice A12 (l7 ++ (([wr (p1 + (((l5).length : Int)))] : List (Int)))).length cap12), (85, .slice A12 (l7 ++ (([wr (p1 + (((l5).length : Int)))] : List (Int)))).length cap12)] (by kernel_rfl) ?_
     refine wS_end (by rfl) ?_
     refine eX_block ?_
     have hq : (some (Ctl.next ((l5 ++ (([([x6, x7] : List (Int))] : List (List (Int)))), l7 ++ (([wr (p1 + (((l5).length : Int)))] : List (Int))), y3.2.1, y3.2.2))) : Option (Ctl ((List (List (Int))) × (List (Int)) × Int × Int) ((List (List (Int)))))) = some _ := hm
     replace hq := someE hq
     subst hq
     exact eX_next hx2 (fun hst => ⟨l5 ++ (([([x6, x7] : List (Int))] : List (List (Int)))), A13, cap13, fp12, (fr2 ++ [b8]), l7 ++ (([wr (p1 + (((l5).length : Int)))] : List (Int))), A12, cap12, fp11, y3.2.1, y3.2.2, rfl, Fr.of hst (by kernel_rfl), F33, F34, F42, F39, G20, G17, D55, D58, D41, hB, hZ⟩)
   ·have hm := condF hb2 hm
    refine cW_exit ?_
    refine eX_then_exit ?_
    have hq : (some (Ctl.out l5) : Option (Ctl ((List (List (Int))) × (List (Int)) × Int × Int) ((List (List (Int)))))) = some _ := hm
    replace hq := someE hq
    subst hq
    refine eX_outX hx2 (fun hr6 => ?_)
    replace hr6 := hr6.symm
    subst hr6
    refine eX_block_hit ?_
    exact eX_J (fun hst => ⟨l5, A6, cap6, fp5, fr2, rfl, Fr.of hst (by kernel_rfl), F16, G8, hB, hZ⟩)
  ·rintro a' w23 ⟨l4, A5, cap5, fp4, fr1, hJ, hF7, F43, G21, hB, hZ⟩
   subst hJ
   refine Fr.goX hF7 (by kernel_rfl) ?_
   refine eX_then ?_
   refine cW_seq ?_
   refine cW_region ?_
   refine wS_pure 2 [(4, .slice A5 (l4).length cap5), (86, .slice A5 (l4).length cap5)] (by kernel_rfl) ?_
   refine wS_end (by rfl) ?_
   refine eX_then ?_
   refine cW_ret ?_
   have hq : (some l4 : Option ((List (List (Int))))) = some _ := hm
   replace hq := someE hq
   subst hq
   refine eX_ret (vs := [.slice A5 (l4).length cap5]) [.tmp 4] (by rfl) ⟨by (show lkE _ _ _ = _); kernel_rfl, trivial⟩ ?_
   exact ⟨A5, cap5, fp4, fr1, rfl, F43, G21, hB⟩

end Go.Proofs.Ytfjpfomdoohabaa
