/- Printed walks: laws.b10Long, spec.l00From, (*spec.l00Src).next, (*spec.l00Src).pick, (*spec.l00Src).one, spec.l07DrawOk, spec.B10Wiring, impl.in, cmp.isNaN[int64], cmp.Compare[int64], slices.Compare[[]int64,int64], impl.ValidWiring$1, impl.ValidWiring$2, (*impl.Wiring).pairsOk, slices.IndexFunc[[][]int64,[]int64], slices.ContainsFunc[[][]int64,[]int64], slices.IndexFunc[[]int64,int64], slices.ContainsFunc[[]int64,int64], impl.ValidWiring. -/
import Derived.Test.YtngnljnfbfgfeaaProg
import Derived.Test.YtngnljnfbfgfeaaMod
import Derived.Test.YtngnljnfbfgfeaaEqs
import Derived.Test.YtngnljnfbfgfeaaSrtC
set_option linter.unusedSimpArgs false
set_option linter.unusedVariables false
namespace Go.Proofs.Ytngnljnfbfgfeaa
open Go.RowKit
attribute [local irreducible] wS cW eX wH

theorem ent52 : Ent Try.prog 52 := fun _ => by kernel_rfl
theorem ent53 : Ent Try.prog 53 := fun _ => by kernel_rfl
theorem ent57 : Ent Try.prog 57 := fun _ => by kernel_rfl
theorem ent58 : Ent Try.prog 58 := fun _ => by kernel_rfl
theorem ent59 : Ent Try.prog 59 := fun _ => by kernel_rfl
theorem ent60 : Ent Try.prog 60 := fun _ => by kernel_rfl
theorem ent61 : Ent Try.prog 61 := fun _ => by kernel_rfl
theorem ent62 : Ent Try.prog 62 := fun _ => by kernel_rfl
theorem ent67 : Ent Try.prog 67 := fun _ => by kernel_rfl
theorem ent90 : Ent Try.prog 90 := fun _ => by kernel_rfl
theorem ent100 : Ent Try.prog 100 := fun _ => by kernel_rfl
theorem ent101 : Ent Try.prog 101 := fun _ => by kernel_rfl
theorem ent102 : Ent Try.prog 102 := fun _ => by kernel_rfl
theorem ent104 : Ent Try.prog 104 := fun _ => by kernel_rfl
theorem ent127 : Ent Try.prog 127 := fun _ => by kernel_rfl
theorem ent147 : Ent Try.prog 147 := fun _ => by kernel_rfl
theorem vt2 : VarTy Try.prog 2 1 false := ⟨by kernel_rfl, by kernel_rfl⟩
theorem vt3 : VarTy Try.prog 3 1 false := ⟨by kernel_rfl, by kernel_rfl⟩
theorem vt5 : VarTy Try.prog 5 1 false := ⟨by kernel_rfl, by kernel_rfl⟩
theorem vt22 : VarTy Try.prog 22 1 false := ⟨by kernel_rfl, by kernel_rfl⟩
theorem vt24 : VarTy Try.prog 24 1 false := ⟨by kernel_rfl, by kernel_rfl⟩
theorem vt25 : VarTy Try.prog 25 1 false := ⟨by kernel_rfl, by kernel_rfl⟩
theorem vt27 : VarTy Try.prog 27 4 true := ⟨by kernel_rfl, by kernel_rfl⟩
theorem vt121 : VarTy Try.prog 121 1 false := ⟨by kernel_rfl, by kernel_rfl⟩
theorem sl22 : SlTy Try.prog 22 5 1 := ⟨Try.underlying22, by kernel_rfl⟩
theorem sl24 : SlTy Try.prog 24 25 1 := ⟨Try.underlying24, by kernel_rfl⟩
theorem sl25 : SlTy Try.prog 25 2 1 := ⟨Try.underlying25, by kernel_rfl⟩
theorem el24 : ElTy Try.prog 24 25 1 (.slice none 0 0) := ElTy.mk' Try.underlying24 (by kernel_rfl) (by rfl)
theorem el25 : ElTy Try.prog 25 2 1 (.int .i64 (0)) := ElTy.mk' Try.underlying25 (by kernel_rfl) (by rfl)
theorem sz2 : pureRun Try.prog (sizeOf 2) = some 1 := by kernel_rfl
theorem sz3 : pureRun Try.prog (sizeOf 3) = some 1 := by kernel_rfl
theorem sz24 : pureRun Try.prog (sizeOf 24) = some 1 := by kernel_rfl
theorem sz25 : pureRun Try.prog (sizeOf 25) = some 1 := by kernel_rfl
theorem sz27 : pureRun Try.prog (sizeOf 27) = some 4 := by kernel_rfl
theorem sz121 : pureRun Try.prog (sizeOf 121) = some 1 := by kernel_rfl

set_option maxRecDepth 100000 in
/-- laws.b10Long -/
theorem c_laws_b10Long {w0 : World} {l0 : List (Int)} {A0 : Option Addr} {cap0 : Nat} {fp0 : List Nat} {l1 : List (Int)} {A1 : Option Addr} {cap1 : Nat} {fp1 : List Nat} {r : (Bool)} (hm : m_laws_b10Long l0 l1 = some r) (F0 : Sl 1 encU w0 fp0 A0 l0) (F1 : Sl 1 encU w0 fp1 A1 l1) :
  Calls Try.prog 11 #[.slice A0 (l0).length cap0, .slice A1 (l1).length cap1] w0 fun e w' => e = .returned (.bool (r)) ∧ Chg [] w0 w' := by
 have L0 := F0.low
 have L1 := F1.low
 have hB : Chg [] w0 w0 := Chg.refl _ _
 have hZ := Nat.le_refl w0.heap.size
 unfold m_laws_b10Long at hm
 refine enterE (N := 13) Try.func11 (by rfl) Try.ntmps11 (by simp) [(0, .slice A0 (l0).length cap0), (1, .slice A1 (l1).length cap1)] (by rfl) (by kernel_rfl) (fun a => ?_)
 refine cW_seq ?_
 refine cW_region ?_
 refine wS_pure 1 [(4, .bool (false))] (by kernel_rfl) ?_
 refine wS_end (by rfl) ?_
 refine eX_then ?_
 refine cW_seq ?_
 refine cW_region ?_
 refine wS_pure 4 [(8, .bool (decide ((((l0).length : Int)) > 1048576))), (7, .bool (decide ((((l0).length : Int)) > 1048576))), (6, .int .i64 (((l0).length : Int))), (5, .slice A0 (l0).length cap0)] (by kernel_rfl) ?_
 refine wS_bool (decide ((((l0).length : Int)) > 1048576)) (fun hb1 => ?_) (fun hb1 => ?_)
 ·have hm := condT hb1 hm
  rewrite [hb1]
  refine wS_pure 5 [(4, .bool (true)), (12, .bool (true)), (11, undef), (10, undef), (9, undef)] (by kernel_rfl) ?_
  refine wS_end (by rfl) ?_
  refine eX_then ?_
  refine cW_ret ?_
  have hq : (some true : Option ((Bool))) = some _ := hm
  replace hq := someE hq
  subst hq
  refine eX_ret (vs := [.bool (true)]) [.tmp 4] (by rfl) ⟨by (show lkE _ _ _ = _); kernel_rfl, trivial⟩ ?_
  exact ⟨rfl, hB⟩
 ·have hm := condF hb1 hm
  rewrite [hb1]
  refine wS_pure 5 [(4, .bool (decide ((((l1).length : Int)) > 1048576))), (12, .bool (decide ((((l1).length : Int)) > 1048576))), (11, .bool (decide ((((l1).length : Int)) > 1048576))), (10, .int .i64 (((l1).length : Int))), (9, .slice A1 (l1).length cap1)] (by kernel_rfl) ?_
  refine wS_end (by rfl) ?_
  refine eX_then ?_
  refine cW_ret ?_
  have hq : (some (decide ((((l1).length : Int)) > 1048576)) : Option ((Bool))) = some _ := hm
  replace hq := someE hq
  subst hq
  refine eX_ret (vs := [.bool (decide ((((l1).length : Int)) > 1048576))]) [.tmp 4] (by rfl) ⟨by (show lkE _ _ _ = _); kernel_rfl, trivial⟩ ?_
  exact ⟨rfl, hB⟩

set_option maxRecDepth 100000 in
/-- spec.l00From -/
theorem c_spec_l00From {w0 : World} {l0 : List (Int)} {A0 : Option Addr} {cap0 : Nat} {fp0 : List Nat} {r : (Int × Int)} (hm : m_spec_l00From l0 = some r) (F0 : Sl 1 encU w0 fp0 A0 l0) :
  Calls Try.prog 52 #[.slice A0 (l0).length cap0] w0 fun e w' => ∃ b100, e = .returned (.pointer (some ⟨b100, 0, none⟩)) ∧ Cl w' b100 123 [.slice A0 (l0).length cap0, .int .i64 (r.1), .int .u64 (r.2)] ∧ w0.heap.size ≤ b100 ∧ Chg [] w0 w' := by
 have L0 := F0.low
 have hB : Chg [] w0 w0 := Chg.refl _ _
 have hZ := Nat.le_refl w0.heap.size
 unfold m_spec_l00From at hm
 refine enterE (N := 6) Try.func52 (by rfl) Try.ntmps52 (by simp) [(0, .slice A0 (l0).length cap0)] (by rfl) (by kernel_rfl) (fun a => ?_)
 refine cW_seq ?_
 refine cW_region ?_
 refine wS_pure 1 [(2, .pointer none)] (by kernel_rfl) ?_
 refine wS_end (by rfl) ?_
 refine eX_then ?_
 refine cW_seq ?_
 refine cW_region ?_
 refine wS_pure 2 [(4, .agg #[.slice A0 (l0).length cap0, .int .i64 (0), .int .u64 (0)]), (3, .slice A0 (l0).length cap0)] (by kernel_rfl) ?_
 refine wS_box (d := 5) (T := 123) (x := .agg #[.slice A0 (l0).length cap0, .int .i64 (0), .int .u64 (0)]) (by kernel_rfl) ?_
 intro b1 w1 G1 F1 hc1
 replace F1 : Cl w1 b1 123 [.slice A0 (l0).length cap0, .int .i64 (0), .int .u64 (0)] := F1
 replace F0 := F0.chg hc1 Dj.nil
 replace hB := hB.inS hc1 inNil
 replace G1 := Nat.le_trans hZ G1
 replace hZ := Nat.le_trans hZ hc1.size
 refine wS_pure 1 [(2, .pointer (some ⟨b1, 0, none⟩))] (by kernel_rfl) ?_
 refine wS_end (by rfl) ?_
 refine eX_then ?_
 refine cW_ret ?_
 have hq : (some ((0, 0)) : Option ((Int × Int))) = some _ := hm
 replace hq := someE hq
 subst hq
 refine eX_ret (vs := [.pointer (some ⟨b1, 0, none⟩)]) [.tmp 2] (by rfl) ⟨by (show lkE _ _ _ = _); kernel_rfl, trivial⟩ ?_
 exact ⟨b1, rfl, F1, G1, hB⟩

set_option maxRecDepth 100000 in
/-- spec.l00Src).next -/
theorem c_spec_l00Src_next_bspecl00Src {w0 : World} {l0_0 : List (Int)} {A0_0 : Option Addr} {cap0_0 : Nat} {fp0_0 : List Nat} {q0_1 : Int} {q0_2 : Int} {b0 : Nat} {r : (Int) × (Int) × (Int)} (hm : m_spec_l00Src_next_bspecl00Src l0_0 q0_1 q0_2 = some r) (F0_0 : Sl 1 encU w0 fp0_0 A0_0 l0_0) (F0 : Cl w0 b0 123 [.slice A0_0 (l0_0).length cap0_0, .int .i64 (q0_1), .int .u64 (q0_2)]) (J0__0_0 : Dj [b0] fp0_0) :
  Calls Try.prog 104 #[.pointer (some ⟨b0, 0, none⟩)] w0 fun e w' => e = .returned (.int .i64 (r.1)) ∧ Cl w' b0 123 [.slice A0_0 (l0_0).length cap0_0, .int .i64 (r.2.1), .int .u64 (r.2.2)] ∧ Chg ([b0] ++ []) w0 w' := by
 have L0_0 := F0_0.low
 have L0 := lt1 F0.lt
 have hB : Chg ([b0] ++ []) w0 w0 := Chg.refl _ _
 have hZ := Nat.le_refl w0.heap.size
 unfold m_spec_l00Src_next_bspecl00Src at hm
 refine enterE (N := 62) Try.func104 (by rfl) Try.ntmps104 (by simp) [(0, .pointer (some ⟨b0, 0, none⟩))] (by rfl) (by kernel_rfl) (fun a => ?_)
 refine cW_seq ?_
 refine cW_region ?_
 refine wS_pure 1 [(2, .int .i64 (0))] (by kernel_rfl) ?_
 refine wS_end (by rfl) ?_
 refine eX_then ?_
 refine cW_seq ?_
 refine cW_region ?_
 refine wS_pure 1 [(3, .int .i64 (0))] (by kernel_rfl) ?_
 refine wS_end (by rfl) ?_
 refine eX_then ?_
 refine cW_seq ?_
 obtain ⟨s1, hs1, hm⟩ := bindE hm
 refine cW_cut (fun a' w' => ∃ x1 : Int, x1 = s1 ∧ Fr 62 [(0, .pointer (some ⟨b0, 0, none⟩)), (3, .int .i64 (x1))] a' ∧ Sl 1 encU w' fp0_0 A0_0 l0_0 ∧ Cl w' b0 123 [.slice A0_0 (l0_0).length cap0_0, .int .i64 (q0_1), .int .u64 (q0_2)] ∧ Chg ([b0] ++ []) w0 w' ∧ w0.heap.size ≤ w'.heap.size) ?_ ?_
 ·have hm := hs1
  refine cW_seq ?_
  refine cW_drawnTail [] 9 (by kernel_rfl) (by kernel_rfl) (fun w1 hc1 => ?_)
  replace F0_0 := F0_0.chg hc1 Dj.nil
  replace F0 := F0.chg hc1 notNil
  replace hB := hB.inS hc1 inNil
  replace hZ := Nat.le_trans hZ hc1.size
  have hS := Chg.refl [] w1
  have Z1 := F0_0
  have Z2 := F0
  refine wH_take [0, 1, 2] [2, 1, 0] [(6, .pointer (some ⟨b0, 1, none⟩)), (5, .pointer (some ⟨b0, 0, none⟩)), (4, .pointer (some ⟨b0, 0, none⟩))] (by kernel_rfl) (qT (qT (qT (qT qZ)))) (by kernel_rfl) ?_
  refine wH_load1 (i := 3) (d := 7) (T := 3) (ad := ⟨b0, 1, none⟩) (v := .int .i64 (q0_1)) (by kernel_rfl) (qT (qT (qT (qT qZ)))) (by kernel_rfl) (by kernel_rfl) vt3 (fun W hW => (Z2.chg hW notNil).cell 1) ?_
  refine wH_take [4, 5, 6] [6, 5, 4, 3, 2, 1, 0] [(10, .pointer (some ⟨b0, 0, none⟩)), (9, .pointer (some ⟨b0, 0, none⟩)), (8, .pointer (some ⟨b0, 0, none⟩))] (by kernel_rfl) (qT (qT (qT (qT qZ)))) (by kernel_rfl) ?_
  refine wH_load1 (i := 7) (d := 11) (T := 22) (ad := ⟨b0, 0, none⟩) (v := .slice A0_0 (l0_0).length cap0_0) (by kernel_rfl) (qT (qT (qT (qT qZ)))) (by kernel_rfl) (by kernel_rfl) vt22 (fun W hW => (Z2.chg hW notNil).cell 0) ?_
  refine wH_take [8] [8, 7, 6, 5, 4, 3, 2, 1, 0] [(12, .int .i64 (((l0_0).length : Int)))] (by kernel_rfl) (qT (qT (qT (qT qZ)))) (by kernel_rfl) ?_
  refine wH_done (by kernel_rfl) ?_
  refine eX_tail ?_
  refine wS_pure 1 [(13, .bool (decide (q0_1 < (((l0_0).length : Int)))))] (by kernel_rfl) ?_
  refine wS_end (by rfl) ?_
  refine eX_then ?_
  refine cW_cond (t := decide (q0_1 < (((l0_0).length : Int)))) (by kernel_rfl) (fun hb1 => ?_) (fun hb1 => ?_)
  ·have hm := condT hb1 hm
   refine cW_drawnTail [] 8 (by kernel_rfl) (by kernel_rfl) (fun w2 hc2 => ?_)
   replace F0_0 := F0_0.chg hc2 Dj.nil
   replace F0 := F0.chg hc2 notNil
   replace hB := hB.inS hc2 inNil
   replace hZ := Nat.le_trans hZ hc2.size
   have hS := Chg.refl [] w2
   have Z3 := F0_0
   have Z4 := F0
   refine wH_take [0, 1, 2] [2, 1, 0] [(16, .pointer (some ⟨b0, 0, none⟩)), (15, .pointer (some ⟨b0, 0, none⟩)), (14, .pointer (some ⟨b0, 0, none⟩))] (by kernel_rfl) (qT (qT (qT qZ))) (by kernel_rfl) ?_
   refine wH_load1 (i := 3) (d := 17) (T := 22) (ad := ⟨b0, 0, none⟩) (v := .slice A0_0 (l0_0).length cap0_0) (by kernel_rfl) (qT (qT (qT qZ))) (by kernel_rfl) (by kernel_rfl) vt22 (fun W hW => (Z4.chg hW notNil).cell 0) ?_
   refine wH_take [4, 5, 6] [6, 5, 4, 3, 2, 1, 0] [(20, .pointer (some ⟨b0, 1, none⟩)), (19, .pointer (some ⟨b0, 0, none⟩)), (18, .pointer (some ⟨b0, 0, none⟩))] (by kernel_rfl) (qT (qT (qT qZ))) (by kernel_rfl) ?_
   refine wH_load1 (i := 7) (d := 21) (T := 3) (ad := ⟨b0, 1, none⟩) (v := .int .i64 (q0_1)) (by kernel_rfl) (qT (qT (qT qZ))) (by kernel_rfl) (by kernel_rfl) vt3 (fun W hW => (Z4.chg hW notNil).cell 1) ?_
   refine wH_done (by kernel_rfl) ?_
   refine eX_tail ?_
   obtain ⟨x2, hx1, hm⟩ := bindE hm
   refine wS_idx (d := 22) (T := 22) (A := A0_0) (n := (l0_0).length) (cap := cap0_0) (kd := .i64) (m := q0_1) (by kernel_rfl) sl22 (F0_0.is hx1) ?_
   refine wS_load1 (d := 23) (T := 5) (ad := (elA A0_0 1 (q0_1) 0)) (v := .int .u8 (x2)) (by kernel_rfl) vt5 (Sl.cell F0_0 hx1 0 (by rfl)) ?_
   refine wS_pure 2 [(3, .int .i64 (wr x2)), (24, .int .i64 (wr x2))] (by kernel_rfl) ?_
   refine wS_end (by rfl) ?_
   have hq : (some (wr x2) : Option (Int)) = some _ := hm
   replace hq := someE hq
   subst hq
   exact eX_J (fun hst => ⟨wr x2, rfl, Fr.of hst (by kernel_rfl), F0_0, F0, hB, hZ⟩)
  ·have hm := condF hb1 hm
   refine cW_skip ?_
   have hq : (some 0 : Option (Int)) = some _ := hm
   replace hq := someE hq
   subst hq
   exact eX_J (fun hst => ⟨0, rfl, Fr.of hst (by kernel_rfl), F0_0, F0, hB, hZ⟩)
 ·rintro a' w3 ⟨x1, hJ, hF1, F1, F2, hB, hZ⟩
  subst hJ
  refine Fr.goX hF1 (by kernel_rfl) ?_
  refine eX_then ?_
  refine cW_seq ?_
  refine cW_region ?_
  refine wS_pure 3 [(27, .pointer (some ⟨b0, 1, none⟩)), (26, .pointer (some ⟨b0, 0, none⟩)), (25, .pointer (some ⟨b0, 0, none⟩))] (by kernel_rfl) ?_
  refine wS_load1 (d := 28) (T := 3) (ad := ⟨b0, 1, none⟩) (v := .int .i64 (q0_1)) (by kernel_rfl) vt3 ((F2).cell 1) ?_
  refine wS_pure 3 [(31, .pointer (some ⟨b0, 1, none⟩)), (30, .pointer (some ⟨b0, 0, none⟩)), (29, .int .i64 (wr (q0_1 + 1)))] (by kernel_rfl) ?_
  refine wS_store (T := 3) (g := b0) (o := 1) (ad := ⟨b0, 1, none⟩) (v := .int .i64 (wr (q0_1 + 1))) (vs := [.int .i64 (wr (q0_1 + 1))]) (by kernel_rfl) (by rfl) sz3 (by rfl) (by rfl) F2 (by simp only [List.length_cons, List.length_nil]; omega) ?_
  intro w4 F3 hc3
  replace F1 := F1.chg hc3 (J0__0_0).symm
  replace hB := hB.inS hc3 (inMem (fun x hx => (List.mem_append_left _ hx)))
  replace hZ := Nat.le_trans hZ hc3.size
  replace F3 : Cl w4 b0 123 [.slice A0_0 (l0_0).length cap0_0, .int .i64 (wr (q0_1 + 1)), .int .u64 (q0_2)] := F3
  clear F2
  refine wS_end (by rfl) ?_
  refine eX_then ?_
  refine cW_seq ?_
  refine cW_region ?_
  refine wS_pure 4 [(35, .pointer (some ⟨b0, 2, none⟩)), (34, .pointer (some ⟨b0, 0, none⟩)), (33, .pointer (some ⟨b0, 0, none⟩)), (32, .pointer (some ⟨b0, 0, none⟩))] (by kernel_rfl) ?_
  refine wS_load1 (d := 36) (T := 121) (ad := ⟨b0, 2, none⟩) (v := .int .u64 (q0_2)) (by kernel_rfl) vt121 ((F3).cell 2) ?_
  refine wS_pure 7 [(43, .pointer (some ⟨b0, 2, none⟩)), (42, .pointer (some ⟨b0, 0, none⟩)), (41, .int .u64 (wu ((wu ((wu (q0_2 * 6364136223846793005)) + (wu x1))) + 1442695040888963407))), (40, .int .u64 (wu ((wu (q0_2 * 6364136223846793005)) + (wu x1)))), (39, .int .u64 (wu x1)), (38, .int .i64 (x1)), (37, .int .u64 (wu (q0_2 * 6364136223846793005)))] (by kernel_rfl) ?_
  refine wS_store (T := 121) (g := b0) (o := 2) (ad := ⟨b0, 2, none⟩) (v := .int .u64 (wu ((wu ((wu (q0_2 * 6364136223846793005)) + (wu x1))) + 1442695040888963407))) (vs := [.int .u64 (wu ((wu ((wu (q0_2 * 6364136223846793005)) + (wu x1))) + 1442695040888963407))]) (by kernel_rfl) (by rfl) sz121 (by rfl) (by rfl) F3 (by simp only [List.length_cons, List.length_nil]; omega) ?_
  intro w5 F4 hc4
  replace F1 := F1.chg hc4 (J0__0_0).symm
  replace hB := hB.inS hc4 (inMem (fun x hx => (List.mem_append_left _ hx)))
  replace hZ := Nat.le_trans hZ hc4.size
  replace F4 : Cl w5 b0 123 [.slice A0_0 (l0_0).length cap0_0, .int .i64 (wr (q0_1 + 1)), .int .u64 (wu ((wu ((wu (q0_2 * 6364136223846793005)) + (wu x1))) + 1442695040888963407))] := F4
  clear F3
  refine wS_end (by rfl) ?_
  refine eX_then ?_
  refine cW_seq ?_
  refine cW_seq ?_
  refine cW_drawnTail [] 9 (by kernel_rfl) (by kernel_rfl) (fun w6 hc5 => ?_)
  replace F1 := F1.chg hc5 Dj.nil
  replace F4 := F4.chg hc5 notNil
  replace hB := hB.inS hc5 inNil
  replace hZ := Nat.le_trans hZ hc5.size
  have hS := Chg.refl [] w6
  have Z5 := F1
  have Z6 := F4
  refine wH_take [0, 1, 2] [2, 1, 0] [(46, .pointer (some ⟨b0, 1, none⟩)), (45, .pointer (some ⟨b0, 0, none⟩)), (44, .pointer (some ⟨b0, 0, none⟩))] (by kernel_rfl) (qT (qT (qT qZ))) (by kernel_rfl) ?_
  refine wH_load1 (i := 3) (d := 47) (T := 3) (ad := ⟨b0, 1, none⟩) (v := .int .i64 (wr (q0_1 + 1))) (by kernel_rfl) (qT (qT (qT qZ))) (by kernel_rfl) (by kernel_rfl) vt3 (fun W hW => (Z6.chg hW notNil).cell 1) ?_
  refine wH_take [4, 5, 6] [6, 5, 4, 3, 2, 1, 0] [(50, .pointer (some ⟨b0, 0, none⟩)), (49, .pointer (some ⟨b0, 0, none⟩)), (48, .pointer (some ⟨b0, 0, none⟩))] (by kernel_rfl) (qT (qT (qT qZ))) (by kernel_rfl) ?_
  refine wH_load1 (i := 7) (d := 51) (T := 22) (ad := ⟨b0, 0, none⟩) (v := .slice A0_0 (l0_0).length cap0_0) (by kernel_rfl) (qT (qT (qT qZ))) (by kernel_rfl) (by kernel_rfl) vt22 (fun W hW => (Z6.chg hW notNil).cell 0) ?_
  refine wH_take [8] [8, 7, 6, 5, 4, 3, 2, 1, 0] [(52, .int .i64 (((l0_0).length : Int)))] (by kernel_rfl) (qT (qT (qT qZ))) (by kernel_rfl) ?_
  refine wH_done (by kernel_rfl) ?_
  refine eX_tail ?_
  refine wS_pure 1 [(53, .bool (decide ((wr (q0_1 + 1)) ≤ (((l0_0).length : Int)))))] (by kernel_rfl) ?_
  refine wS_end (by rfl) ?_
  refine eX_then ?_
  refine cW_prune [(0, .pointer (some ⟨b0, 0, none⟩)), (3, .int .i64 (x1)), (53, .bool (decide ((wr (q0_1 + 1)) ≤ (((l0_0).length : Int)))))] (by kernel_rfl) (by kernel_rfl) (fun a1 => ?_)
  refine cW_cond (t := decide ((wr (q0_1 + 1)) ≤ (((l0_0).length : Int)))) (by kernel_rfl) (fun hb2 => ?_) (fun hb2 => ?_)
  ·have hm := condT hb2 hm
   refine cW_seq ?_
   refine cW_region ?_
   refine wS_pure 2 [(2, .int .i64 (x1)), (54, .int .i64 (x1))] (by kernel_rfl) ?_
   refine wS_end (by rfl) ?_
   refine eX_then ?_
   refine cW_ret ?_
   refine eX_then_ret ?_
   have hq : (some ((x1, wr (q0_1 + 1), wu ((wu ((wu (q0_2 * 6364136223846793005)) + (wu x1))) + 1442695040888963407))) : Option ((Int) × (Int) × (Int))) = some _ := hm
   replace hq := someE hq
   subst hq
   refine eX_ret (vs := [.int .i64 (x1)]) [.tmp 2] (by rfl) ⟨by (show lkE _ _ _ = _); kernel_rfl, trivial⟩ ?_
   exact ⟨rfl, F4, hB⟩
  ·have hm := condF hb2 hm
   refine cW_skip ?_
   refine eX_then ?_
   refine cW_seq ?_
   refine cW_region ?_
   refine wS_pure 3 [(57, .pointer (some ⟨b0, 2, none⟩)), (56, .pointer (some ⟨b0, 0, none⟩)), (55, .pointer (some ⟨b0, 0, none⟩))] (by kernel_rfl) ?_
   refine wS_load1 (d := 58) (T := 121) (ad := ⟨b0, 2, none⟩) (v := .int .u64 (wu ((wu ((wu (q0_2 * 6364136223846793005)) + (wu x1))) + 1442695040888963407))) (by kernel_rfl) vt121 ((F4).cell 2) ?_
   refine wS_pure 4 [(2, .int .i64 (wr (andU (shrU (wu ((wu ((wu (q0_2 * 6364136223846793005)) + (wu x1))) + 1442695040888963407)) 40) 255))), (61, .int .i64 (wr (andU (shrU (wu ((wu ((wu (q0_2 * 6364136223846793005)) + (wu x1))) + 1442695040888963407)) 40) 255))), (60, .int .u64 (andU (shrU (wu ((wu ((wu (q0_2 * 6364136223846793005)) + (wu x1))) + 1442695040888963407)) 40) 255)), (59, .int .u64 (shrU (wu ((wu ((wu (q0_2 * 6364136223846793005)) + (wu x1))) + 1442695040888963407)) 40))] (by kernel_rfl) ?_
   refine wS_end (by rfl) ?_
   refine eX_then ?_
   refine cW_ret ?_
   have hq : (some ((wr (andU (shrU (wu ((wu ((wu (q0_2 * 6364136223846793005)) + (wu x1))) + 1442695040888963407)) 40) 255), wr (q0_1 + 1), wu ((wu ((wu (q0_2 * 6364136223846793005)) + (wu x1))) + 1442695040888963407))) : Option ((Int) × (Int) × (Int))) = some _ := hm
   replace hq := someE hq
   subst hq
   refine eX_ret (vs := [.int .i64 (wr (andU (shrU (wu ((wu ((wu (q0_2 * 6364136223846793005)) + (wu x1))) + 1442695040888963407)) 40) 255))]) [.tmp 2] (by rfl) ⟨by (show lkE _ _ _ = _); kernel_rfl, trivial⟩ ?_
   exact ⟨rfl, F4, hB⟩

set_option maxRecDepth 100000 in
/-- spec.l00Src).pick -/
theorem c_spec_l00Src_pick_bspecl00Src {w0 : World} {l0_0 : List (Int)} {A0_0 : Option Addr} {cap0_0 : Nat} {fp0_0 : List Nat} {q0_1 : Int} {q0_2 : Int} {b0 : Nat} {p1 : Int} {r : (Int) × (Int) × (Int)} (hm : m_spec_l00Src_pick_bspecl00Src l0_0 q0_1 q0_2 p1 = some r) (F0_0 : Sl 1 encU w0 fp0_0 A0_0 l0_0) (F0 : Cl w0 b0 123 [.slice A0_0 (l0_0).length cap0_0, .int .i64 (q0_1), .int .u64 (q0_2)]) (J0__0_0 : Dj [b0] fp0_0) :
  Calls Try.prog 67 #[.pointer (some ⟨b0, 0, none⟩), .int .i64 (p1)] w0 fun e w' => e = .returned (.int .i64 (r.1)) ∧ Cl w' b0 123 [.slice A0_0 (l0_0).length cap0_0, .int .i64 (r.2.1), .int .u64 (r.2.2)] ∧ Chg ([b0] ++ []) w0 w' := by
 have L0_0 := F0_0.low
 have L0 := lt1 F0.lt
 have hB : Chg ([b0] ++ []) w0 w0 := Chg.refl _ _
 have hZ := Nat.le_refl w0.heap.size
 unfold m_spec_l00Src_pick_bspecl00Src at hm
 refine enterE (N := 20) Try.func67 (by rfl) Try.ntmps67 (by simp) [(0, .pointer (some ⟨b0, 0, none⟩)), (1, .int .i64 (p1))] (by rfl) (by kernel_rfl) (fun a => ?_)
 refine cW_seq ?_
 refine cW_region ?_
 refine wS_pure 1 [(4, .int .i64 (0))] (by kernel_rfl) ?_
 refine wS_end (by rfl) ?_
 refine eX_then ?_
 refine cW_seq ?_
 refine cW_seq ?_
 refine cW_region ?_
 refine wS_pure 2 [(7, .bool (decide (p1 ≤ 1))), (6, .int .i64 (p1))] (by kernel_rfl) ?_
 refine wS_end (by rfl) ?_
 refine eX_then ?_
 refine cW_cond (t := decide (p1 ≤ 1)) (by kernel_rfl) (fun hb1 => ?_) (fun hb1 => ?_)
 ·have hm := condT hb1 hm
  refine cW_seq ?_
  refine cW_region ?_
  refine wS_pure 1 [(4, .int .i64 (0))] (by kernel_rfl) ?_
  refine wS_end (by rfl) ?_
  refine eX_then ?_
  refine cW_ret ?_
  refine eX_then_ret ?_
  have hq : (some ((0, q0_1, q0_2)) : Option ((Int) × (Int) × (Int))) = some _ := hm
  replace hq := someE hq
  subst hq
  refine eX_ret (vs := [.int .i64 (0)]) [.tmp 4] (by rfl) ⟨by (show lkE _ _ _ = _); kernel_rfl, trivial⟩ ?_
  exact ⟨rfl, F0, hB⟩
 ·have hm := condF hb1 hm
  refine cW_skip ?_
  refine eX_then ?_
  refine cW_seq ?_
  refine cW_region ?_
  refine wS_pure 1 [(8, .pointer (some ⟨b0, 0, none⟩))] (by kernel_rfl) ?_
  obtain ⟨y1, hy1, hm⟩ := bindE hm
  refine wS_calls (d := 9) (f := 104) (vs := [.pointer (some ⟨b0, 0, none⟩)]) (by kernel_rfl) ent104 (c_spec_l00Src_next_bspecl00Src hy1 F0_0 F0 J0__0_0) ?_
  rintro _ w1 ⟨rfl, F1, hc1⟩
  replace F0_0 := F0_0.chg hc1 (Dj.app (J0__0_0).symm Dj.nil)
  replace hB := hB.inS hc1 (inApp (inMem (fun x hx => (List.mem_append_left _ hx))) inNil)
  replace hZ := Nat.le_trans hZ hc1.size
  clear F0
  refine ⟨.int .i64 (y1.1), rfl, ?_⟩
  refine wS_pure 1 [(5, .int .i64 (y1.1))] (by kernel_rfl) ?_
  refine wS_end (by rfl) ?_
  refine eX_then ?_
  refine cW_seq ?_
  obtain ⟨s1, hs1, hm⟩ := bindE hm
  refine cW_cut (fun a' w' => ∃ x1 : Int, ∃ x2 : Int, ∃ x3 : Int, (x1, x2, x3) = s1 ∧ Fr 20 [(1, .int .i64 (p1)), (5, .int .i64 (x1))] a' ∧ Sl 1 encU w' fp0_0 A0_0 l0_0 ∧ Cl w' b0 123 [.slice A0_0 (l0_0).length cap0_0, .int .i64 (x2), .int .u64 (x3)] ∧ Chg ([b0] ++ []) w0 w' ∧ w0.heap.size ≤ w'.heap.size) ?_ ?_
  ·have hm := hs1
   refine cW_seq ?_
   refine cW_region ?_
   refine wS_pure 2 [(11, .bool (decide (p1 > 200))), (10, .int .i64 (p1))] (by kernel_rfl) ?_
   refine wS_end (by rfl) ?_
   refine eX_then ?_
   refine cW_cond (t := decide (p1 > 200)) (by kernel_rfl) (fun hb2 => ?_) (fun hb2 => ?_)
   ·have hm := condT hb2 hm
    refine cW_region ?_
    refine wS_pure 3 [(14, .pointer (some ⟨b0, 0, none⟩)), (13, .int .i64 (wr (y1.1 * 256))), (12, .int .i64 (y1.1))] (by kernel_rfl) ?_
    obtain ⟨y2, hy2, hm⟩ := bindE hm
    refine wS_calls (d := 15) (f := 104) (vs := [.pointer (some ⟨b0, 0, none⟩)]) (by kernel_rfl) ent104 (c_spec_l00Src_next_bspecl00Src hy2 F0_0 F1 J0__0_0) ?_
    rintro _ w2 ⟨rfl, F2, hc2⟩
    replace F0_0 := F0_0.chg hc2 (Dj.app (J0__0_0).symm Dj.nil)
    replace hB := hB.inS hc2 (inApp (inMem (fun x hx => (List.mem_append_left _ hx))) inNil)
    replace hZ := Nat.le_trans hZ hc2.size
    clear F1
    refine ⟨.int .i64 (y2.1), rfl, ?_⟩
    refine wS_pure 2 [(5, .int .i64 (wr ((wr (y1.1 * 256)) + y2.1))), (16, .int .i64 (wr ((wr (y1.1 * 256)) + y2.1)))] (by kernel_rfl) ?_
    refine wS_end (by rfl) ?_
    have hq : (some ((wr ((wr (y1.1 * 256)) + y2.1), y2.2.1, y2.2.2)) : Option (Int × Int × Int)) = some _ := hm
    replace hq := someE hq
    subst hq
    exact eX_J (fun hst => ⟨wr ((wr (y1.1 * 256)) + y2.1), y2.2.1, y2.2.2, rfl, Fr.of hst (by kernel_rfl), F0_0, F2, hB, hZ⟩)
   ·have hm := condF hb2 hm
    refine cW_skip ?_
    have hq : (some ((y1.1, y1.2.1, y1.2.2)) : Option (Int × Int × Int)) = some _ := hm
    replace hq := someE hq
    subst hq
    exact eX_J (fun hst => ⟨y1.1, y1.2.1, y1.2.2, rfl, Fr.of hst (by kernel_rfl), F0_0, F1, hB, hZ⟩)
  ·rintro a' w3 ⟨x1, x2, x3, hJ, hF1, F3, F4, hB, hZ⟩
   subst hJ
   refine Fr.goX hF1 (by kernel_rfl) ?_
   refine eX_then ?_
   refine cW_seq ?_
   refine cW_region ?_
   refine wS_pure 2 [(18, .int .i64 (p1)), (17, .int .i64 (x1))] (by kernel_rfl) ?_
   obtain ⟨u1, hu1, hm⟩ := bindE hm
   refine wS_rem (d := 19) (x := x1) (y := p1) (by kernel_rfl) (nzE hu1) ?_
   refine wS_pure 1 [(4, .int .i64 (Int.tmod x1 p1))] (by kernel_rfl) ?_
   refine wS_end (by rfl) ?_
   refine eX_then ?_
   refine cW_ret ?_
   have hq : (some ((Int.tmod x1 p1, x2, x3)) : Option ((Int) × (Int) × (Int))) = some _ := hm
   replace hq := someE hq
   subst hq
   refine eX_ret (vs := [.int .i64 (Int.tmod x1 p1)]) [.tmp 4] (by rfl) ⟨by (show lkE _ _ _ = _); kernel_rfl, trivial⟩ ?_
   exact ⟨rfl, F4, hB⟩

set_option maxRecDepth 100000 in
/-- spec.l00Src).one -/
theorem c_spec_l00Src_one_bspecl00Src {w0 : World} {l0_0 : List (Int)} {A0_0 : Option Addr} {cap0_0 : Nat} {fp0_0 : List Nat} {q0_1 : Int} {q0_2 : Int} {b0 : Nat} {p1 : Int} {r : (Bool) × (Int) × (Int)} (hm : m_spec_l00Src_one_bspecl00Src l0_0 q0_1 q0_2 p1 = some r) (F0_0 : Sl 1 encU w0 fp0_0 A0_0 l0_0) (F0 : Cl w0 b0 123 [.slice A0_0 (l0_0).length cap0_0, .int .i64 (q0_1), .int .u64 (q0_2)]) (J0__0_0 : Dj [b0] fp0_0) :
  Calls Try.prog 90 #[.pointer (some ⟨b0, 0, none⟩), .int .i64 (p1)] w0 fun e w' => e = .returned (.bool (r.1)) ∧ Cl w' b0 123 [.slice A0_0 (l0_0).length cap0_0, .int .i64 (r.2.1), .int .u64 (r.2.2)] ∧ Chg ([b0] ++ []) w0 w' := by
 have L0_0 := F0_0.low
 have L0 := lt1 F0.lt
 have hB : Chg ([b0] ++ []) w0 w0 := Chg.refl _ _
 have hZ := Nat.le_refl w0.heap.size
 unfold m_spec_l00Src_one_bspecl00Src at hm
 refine enterE (N := 9) Try.func90 (by rfl) Try.ntmps90 (by simp) [(0, .pointer (some ⟨b0, 0, none⟩)), (1, .int .i64 (p1))] (by rfl) (by kernel_rfl) (fun a => ?_)
 refine cW_seq ?_
 refine cW_region ?_
 refine wS_pure 1 [(4, .bool (false))] (by kernel_rfl) ?_
 refine wS_end (by rfl) ?_
 refine eX_then ?_
 refine cW_seq ?_
 refine cW_region ?_
 refine wS_pure 2 [(6, .int .i64 (p1)), (5, .pointer (some ⟨b0, 0, none⟩))] (by kernel_rfl) ?_
 obtain ⟨y1, hy1, hm⟩ := bindE hm
 refine wS_calls (d := 7) (f := 67) (vs := [.pointer (some ⟨b0, 0, none⟩), .int .i64 (p1)]) (by kernel_rfl) ent67 (c_spec_l00Src_pick_bspecl00Src hy1 F0_0 F0 J0__0_0) ?_
 rintro _ w1 ⟨rfl, F1, hc1⟩
 replace F0_0 := F0_0.chg hc1 (Dj.app (J0__0_0).symm Dj.nil)
 replace hB := hB.inS hc1 (inApp (inMem (fun x hx => (List.mem_append_left _ hx))) inNil)
 replace hZ := Nat.le_trans hZ hc1.size
 clear F0
 refine ⟨.int .i64 (y1.1), rfl, ?_⟩
 refine wS_pure 2 [(4, .bool (y1.1 == 0)), (8, .bool (y1.1 == 0))] (by kernel_rfl) ?_
 refine wS_end (by rfl) ?_
 refine eX_then ?_
 refine cW_ret ?_
 have hq : (some ((y1.1 == 0, y1.2.1, y1.2.2)) : Option ((Bool) × (Int) × (Int))) = some _ := hm
 replace hq := someE hq
 subst hq
 refine eX_ret (vs := [.bool (y1.1 == 0)]) [.tmp 4] (by rfl) ⟨by (show lkE _ _ _ = _); kernel_rfl, trivial⟩ ?_
 exact ⟨rfl, F1, hB⟩

set_option maxRecDepth 100000 in
/-- spec.l07DrawOk -/
theorem c_spec_l07DrawOk_bspecl00Src {w0 : World} {l0_0 : List (Int)} {A0_0 : Option Addr} {cap0_0 : Nat} {fp0_0 : List Nat} {q0_1 : Int} {q0_2 : Int} {b0 : Nat} {r : (Int × (List (List (Int))) × (List (List (Int))) × (List (Int))) × (Int) × (Int)} (hm : m_spec_l07DrawOk_bspecl00Src l0_0 q0_1 q0_2 = some r) (F0_0 : Sl 1 encU w0 fp0_0 A0_0 l0_0) (F0 : Cl w0 b0 123 [.slice A0_0 (l0_0).length cap0_0, .int .i64 (q0_1), .int .u64 (q0_2)]) (J0__0_0 : Dj [b0] fp0_0) :
  Calls Try.prog 53 #[.pointer (some ⟨b0, 0, none⟩)] w0 fun e w' => ∃ A100_1 cap100_1 fp100_1 fr100_1, ∃ A100_2 cap100_2 fp100_2 fr100_2, ∃ A100_3 cap100_3 fp100_3, e = .returned (.agg #[.int .i64 (r.1.1), .slice A100_1 (r.1.2.1).length cap100_1, .slice A100_2 (r.1.2.2.1).length cap100_2, .slice A100_3 (r.1.2.2.2).length cap100_3]) ∧ OwR 1 encI 25 2 w' fp100_1 fr100_1 A100_1 cap100_1 r.1.2.1 ∧ (∀ x ∈ fp100_1 ++ fr100_1, w0.heap.size ≤ x) ∧ OwR 1 encI 25 2 w' fp100_2 fr100_2 A100_2 cap100_2 r.1.2.2.1 ∧ (∀ x ∈ fp100_2 ++ fr100_2, w0.heap.size ≤ x) ∧ Ow 1 encI 2 w' fp100_3 A100_3 cap100_3 r.1.2.2.2 ∧ (∀ x ∈ fp100_3, w0.heap.size ≤ x) ∧ Dj (fp100_1 ++ fr100_1) (fp100_2 ++ fr100_2) ∧ Dj (fp100_1 ++ fr100_1) fp100_3 ∧ Dj (fp100_2 ++ fr100_2) fp100_3 ∧ Cl w' b0 123 [.slice A0_0 (l0_0).length cap0_0, .int .i64 (r.2.1), .int .u64 (r.2.2)] ∧ Chg ([b0] ++ []) w0 w' := by
 have L0_0 := F0_0.low
 have L0 := lt1 F0.lt
 have hB : Chg ([b0] ++ []) w0 w0 := Chg.refl _ _
 have hZ := Nat.le_refl w0.heap.size
 unfold m_spec_l07DrawOk_bspecl00Src at hm
 refine enterE (N := 109) Try.func53 (by rfl) Try.ntmps53 (by simp) [(0, .pointer (some ⟨b0, 0, none⟩))] (by rfl) (by kernel_rfl) (fun a => ?_)
 refine cW_seq ?_
 refine cW_region ?_
 refine wS_alloc (d := 2) (T := 27) (z := .agg #[.int .i64 (0), .slice none 0 0, .slice none 0 0, .slice none 0 0]) (by kernel_rfl) (by kernel_rfl) ?_
 intro b1 w1 G1 F1 hc1
 replace F1 : Cl w1 b1 27 [.int .i64 (0), .slice none 0 0, .slice none 0 0, .slice none 0 0] := F1
 replace F0_0 := F0_0.chg hc1 Dj.nil
 replace F0 := F0.chg hc1 notNil
 replace hB := hB.inS hc1 inNil
 replace G1 := Nat.le_trans hZ G1
 replace hZ := Nat.le_trans hZ hc1.size
 refine wS_end (by rfl) ?_
 refine eX_then ?_
 refine cW_seq ?_
 refine cW_region ?_
 refine wS_pure 1 [(10, .pointer (some ⟨b0, 0, none⟩))] (by kernel_rfl) ?_
 obtain ⟨y1, hy1, hm⟩ := bindE hm
 refine wS_calls (d := 11) (f := 67) (vs := [.pointer (some ⟨b0, 0, none⟩), .int .i64 (8)]) (by kernel_rfl) ent67 (c_spec_l00Src_pick_bspecl00Src hy1 F0_0 F0 J0__0_0) ?_
 rintro _ w2 ⟨rfl, F2, hc2⟩
 replace F0_0 := F0_0.chg hc2 (Dj.app (J0__0_0).symm Dj.nil)
 replace F1 := F1.chg hc2 (dj1 (Dj.app (Dj.of L0 (low1 G1)).symm Dj.nil))
 replace hB := hB.inS hc2 (inApp (inMem (fun x hx => (List.mem_append_left _ hx))) inNil)
 replace hZ := Nat.le_trans hZ hc2.size
 clear F0
 refine ⟨.int .i64 (y1.1), rfl, ?_⟩
 refine wS_pure 1 [(12, .agg #[.int .i64 (y1.1), .slice none 0 0, .slice none 0 0, .slice none 0 0])] (by kernel_rfl) ?_
 refine wS_alloc (d := 3) (T := 27) (z := .agg #[.int .i64 (0), .slice none 0 0, .slice none 0 0, .slice none 0 0]) (by kernel_rfl) (by kernel_rfl) ?_
 intro b2 w3 G2 F3 hc3
 replace F3 : Cl w3 b2 27 [.int .i64 (0), .slice none 0 0, .slice none 0 0, .slice none 0 0] := F3
 have D1 : Dj [b1] [b2] := Dj.of (lt1 F1.lt) (low1 G2)
 replace F0_0 := F0_0.chg hc3 Dj.nil
 replace F2 := F2.chg hc3 notNil
 replace F1 := F1.chg hc3 notNil
 replace hB := hB.inS hc3 inNil
 replace G2 := Nat.le_trans hZ G2
 replace hZ := Nat.le_trans hZ hc3.size
 refine wS_store (T := 27) (g := b2) (o := 0) (ad := ⟨b2, 0, none⟩) (v := .agg #[.int .i64 (y1.1), .slice none 0 0, .slice none 0 0, .slice none 0 0]) (vs := [.int .i64 (y1.1), .slice none 0 0, .slice none 0 0, .slice none 0 0]) (by kernel_rfl) (by rfl) sz27 (by rfl) (by rfl) F3 (by simp only [List.length_cons, List.length_nil]; omega) ?_
 intro w4 F4 hc4
 replace F0_0 := F0_0.chg hc4 (Dj.of L0_0 (low1 G2))
 replace F2 := F2.chg hc4 (dj1 (Dj.of L0 (low1 G2)))
 replace F1 := F1.chg hc4 (dj1 D1)
 replace hB := hB.inS hc4 (inLow (low1 G2))
 replace hZ := Nat.le_trans hZ hc4.size
 replace F4 : Cl w4 b2 27 [.int .i64 (y1.1), .slice none 0 0, .slice none 0 0, .slice none 0 0] := F4
 clear F3
 refine wS_end (by rfl) ?_
 refine eX_then ?_
 refine cW_seq ?_
 obtain ⟨s1, hs1, hm⟩ := bindE hm
 refine cW_cut (fun a' w' => ∃ x1 : Int, ∃ x2 : Int, ∃ x3 : Int, (x1, x2, x3) = s1 ∧ Fr 109 [(0, .pointer (some ⟨b0, 0, none⟩)), (2, .pointer (some ⟨b1, 0, none⟩)), (3, .pointer (some ⟨b2, 0, none⟩))] a' ∧ Sl 1 encU w' fp0_0 A0_0 l0_0 ∧ Cl w' b0 123 [.slice A0_0 (l0_0).length cap0_0, .int .i64 (x2), .int .u64 (x3)] ∧ Cl w' b1 27 [.int .i64 (0), .slice none 0 0, .slice none 0 0, .slice none 0 0] ∧ Cl w' b2 27 [.int .i64 (x1), .slice none 0 0, .slice none 0 0, .slice none 0 0] ∧ Chg ([b0] ++ []) w0 w' ∧ w0.heap.size ≤ w'.heap.size) ?_ ?_
 ·have hm := hs1
  refine cW_seq ?_
  refine cW_region ?_
  refine wS_pure 1 [(13, .pointer (some ⟨b0, 0, none⟩))] (by kernel_rfl) ?_
  obtain ⟨y2, hy2, hm⟩ := bindE hm
  refine wS_calls (d := 14) (f := 90) (vs := [.pointer (some ⟨b0, 0, none⟩), .int .i64 (20)]) (by kernel_rfl) ent90 (c_spec_l00Src_one_bspecl00Src hy2 F0_0 F2 J0__0_0) ?_
  rintro _ w5 ⟨rfl, F5, hc5⟩
  replace F0_0 := F0_0.chg hc5 (Dj.app (J0__0_0).symm Dj.nil)
  replace F1 := F1.chg hc5 (dj1 (Dj.app (Dj.of L0 (low1 G1)).symm Dj.nil))
  replace F4 := F4.chg hc5 (dj1 (Dj.app (Dj.of L0 (low1 G2)).symm Dj.nil))
  replace hB := hB.inS hc5 (inApp (inMem (fun x hx => (List.mem_append_left _ hx))) inNil)
  replace hZ := Nat.le_trans hZ hc5.size
  clear F2
  refine ⟨.bool (y2.1), rfl, ?_⟩
  refine wS_end (by rfl) ?_
  refine eX_then ?_
  refine cW_cond (t := y2.1) (by kernel_rfl) (fun hb1 => ?_) (fun hb1 => ?_)
  ·have hm := condT hb1 hm
   refine cW_region ?_
   refine wS_pure 1 [(15, .pointer (some ⟨b2, 0, none⟩))] (by kernel_rfl) ?_
   refine wS_store (T := 2) (g := b2) (o := 0) (ad := ⟨b2, 0, none⟩) (v := .int .i64 (14)) (vs := [.int .i64 (14)]) (by kernel_rfl) (by rfl) sz2 (by rfl) (by rfl) F4 (by simp only [List.length_cons, List.length_nil]; omega) ?_
   intro w6 F6 hc6
   replace F0_0 := F0_0.chg hc6 (Dj.of L0_0 (low1 G2))
   replace F5 := F5.chg hc6 (dj1 (Dj.of L0 (low1 G2)))
   replace F1 := F1.chg hc6 (dj1 D1)
   replace hB := hB.inS hc6 (inLow (low1 G2))
   replace hZ := Nat.le_trans hZ hc6.size
   replace F6 : Cl w6 b2 27 [.int .i64 (14), .slice none 0 0, .slice none 0 0, .slice none 0 0] := F6
   clear F4
   refine wS_end (by rfl) ?_
   have hq : (some ((14, y2.2.1, y2.2.2)) : Option (Int × Int × Int)) = some _ := hm
   replace hq := someE hq
   subst hq
   exact eX_J (fun hst => ⟨14, y2.2.1, y2.2.2, rfl, Fr.of hst (by kernel_rfl), F0_0, F5, F1, F6, hB, hZ⟩)
  ·have hm := condF hb1 hm
   refine cW_skip ?_
   have hq : (some ((y1.1, y2.2.1, y2.2.2)) : Option (Int × Int × Int)) = some _ := hm
   replace hq := someE hq
   subst hq
   exact eX_J (fun hst => ⟨y1.1, y2.2.1, y2.2.2, rfl, Fr.of hst (by kernel_rfl), F0_0, F5, F1, F4, hB, hZ⟩)
 ·rintro a' w7 ⟨x1, x2, x3, hJ, hF1, F7, F8, F9, F10, hB, hZ⟩
  subst hJ
  refine Fr.goX hF1 (by kernel_rfl) ?_
  refine eX_then ?_
  refine cW_seq ?_
  refine cW_region ?_
  refine wS_bs0 (α := Int) (enc := encI) (d := 16) (t := 25) (T := 2) (by kernel_rfl) el25 ?_
  intro b3 w8 G3 F11 hc7
  have D2 : Dj [b1] [b3] := Dj.of (lt1 F9.lt) (low1 G3)
  have D3 : Dj [b2] [b3] := Dj.of (lt1 F10.lt) (low1 G3)
  replace F7 := F7.chg hc7 Dj.nil
  replace F8 := F8.chg hc7 notNil
  replace F9 := F9.chg hc7 notNil
  replace F10 := F10.chg hc7 notNil
  replace hB := hB.inS hc7 inNil
  replace G3 := Nat.le_trans hZ G3
  replace G3 := low1 G3
  replace hZ := Nat.le_trans hZ hc7.size
  refine wS_pure 1 [(4, .slice (some ⟨b3, 0, none⟩) (([] : List (Int))).length 0)] (by kernel_rfl) ?_
  refine wS_end (by rfl) ?_
  refine eX_then ?_
  refine cW_seq ?_
  refine cW_seq ?_
  refine cW_region ?_
  refine wS_pure 1 [(5, .int .i64 (0))] (by kernel_rfl) ?_
  refine wS_end (by rfl) ?_
  refine eX_then ?_
  obtain ⟨r1, hr1, hm⟩ := bindE hm
  have hm1 := hm
  refine cW_cut (fun a' w' => ∃ l1 : List (Int), ∃ A1 : Option Addr, ∃ cap1 : Nat, ∃ fp1 : List Nat, ∃ l3 : List (Int), ∃ A3 : Option Addr, ∃ cap3 : Nat, ∃ fp2 : List Nat, ∃ x4 : Int, ∃ x5 : Int, (l1, l3, x4, x5) = r1 ∧ Fr 109 [(0, .pointer (some ⟨b0, 0, none⟩)), (2, .pointer (some ⟨b1, 0, none⟩)), (3, .pointer (some ⟨b2, 0, none⟩)), (4, .slice A1 (l1).length cap1)] a' ∧ Sl 1 encU w' fp0_0 A0_0 l0_0 ∧ Cl w' b0 123 [.slice A0_0 (l0_0).length cap0_0, .int .i64 (x4), .int .u64 (x5)] ∧ Cl w' b1 27 [.int .i64 (0), .slice none 0 0, .slice none 0 0, .slice none 0 0] ∧ Cl w' b2 27 [.int .i64 (x1), .slice none 0 0, .slice none 0 0, .slice A3 (l3).length cap3] ∧ Ow 1 encI 2 w' fp1 A1 cap1 l1 ∧ Ow 1 encI 2 w' fp2 A3 cap3 l3 ∧ (∀ x ∈ fp1, w0.heap.size ≤ x) ∧ (∀ x ∈ fp2, w0.heap.size ≤ x) ∧ Dj [b1] fp1 ∧ Dj [b2] fp1 ∧ Dj fp2 fp1 ∧ Dj [b1] fp2 ∧ Dj [b2] fp2 ∧ Chg ([b0] ++ []) w0 w' ∧ w0.heap.size ≤ w'.heap.size) ?_ ?_
  ·refine cW_block ?_
   refine cW_loop _ (fun (s2 : (List (Int)) × Int × (List (Int)) × Int × Int) a' w' => ∃ l4 : List (Int), ∃ A4 : Option Addr, ∃ cap4 : Nat, ∃ fp3 : List Nat, ∃ x6 : Int, ∃ l5 : List (Int), ∃ A5 : Option Addr, ∃ cap5 : Nat, ∃ fp4 : List Nat, ∃ x7 : Int, ∃ x8 : Int, (l4, x6, l5, x7, x8) = s2 ∧ Fr 109 [(0, .pointer (some ⟨b0, 0, none⟩)), (2, .pointer (some ⟨b1, 0, none⟩)), (3, .pointer (some ⟨b2, 0, none⟩)), (4, .slice A4 (l4).length cap4), (5, .int .i64 (x6))] a' ∧ Sl 1 encU w' fp0_0 A0_0 l0_0 ∧ Cl w' b0 123 [.slice A0_0 (l0_0).length cap0_0, .int .i64 (x7), .int .u64 (x8)] ∧ Cl w' b1 27 [.int .i64 (0), .slice none 0 0, .slice none 0 0, .slice none 0 0] ∧ Cl w' b2 27 [.int .i64 (x1), .slice none 0 0, .slice none 0 0, .slice A5 (l5).length cap5] ∧ Ow 1 encI 2 w' fp3 A4 cap4 l4 ∧ Ow 1 encI 2 w' fp4 A5 cap5 l5 ∧ (∀ x ∈ fp3, w0.heap.size ≤ x) ∧ (∀ x ∈ fp4, w0.heap.size ≤ x) ∧ Dj [b1] fp3 ∧ Dj [b2] fp3 ∧ Dj fp4 fp3 ∧ Dj [b1] fp4 ∧ Dj [b2] fp4 ∧ Chg ([b0] ++ []) w0 w' ∧ w0.heap.size ≤ w'.heap.size) hr1 (fun hst => ⟨([] : List (Int)), (some ⟨b3, 0, none⟩), 0, [b3], 0, [], none, 0, [], x2, x3, rfl, Fr.of hst (by kernel_rfl), F7, F8, F9, F10, F11, Ow.nil _, G3, lowNil, D2, D3, Dj.nil.symm, Dj.nil, Dj.nil, hB, hZ⟩) ?_
   rintro _ c1 a' w9 ⟨l4, A4, cap4, fp3, x6, l5, A5, cap5, fp4, x7, x8, rfl, hF2, F12, F13, F14, F15, F16, F17, G4, G5, D4, D5, D6, D7, D8, hB, hZ⟩ hx1
   refine Fr.goOn hF2 (by kernel_rfl) ?_
   have hm := hx1
   unfold m_spec_l07DrawOk_bspecl00Src_s1 at hm
   refine cW_seq ?_
   refine cW_seq ?_
   refine cW_region ?_
   refine wS_pure 2 [(18, .pointer (some ⟨b2, 0, none⟩)), (17, .int .i64 (x6))] (by kernel_rfl) ?_
   refine wS_load1 (d := 19) (T := 2) (ad := ⟨b2, 0, none⟩) (v := .int .i64 (x1)) (by kernel_rfl) vt2 ((F15).cell 0) ?_
   refine wS_pure 1 [(20, .bool (decide (x6 < x1)))] (by kernel_rfl) ?_
   refine wS_end (by rfl) ?_
   refine eX_then ?_
   refine cW_cond (t := decide (x6 < x1)) (by kernel_rfl) (fun hb2 => ?_) (fun hb2 => ?_)
   ·have hm := condT hb2 hm
    refine cW_skip ?_
    refine eX_then ?_
    refine cW_seq ?_
    refine cW_block ?_
    obtain ⟨s3, hs2, hm⟩ := bindE hm
    refine cW_cut (fun a' w' => ∃ l6 : List (Int), ∃ A6 : Option Addr, ∃ cap6 : Nat, ∃ fp5 : List Nat, ∃ l7 : List (Int), ∃ A7 : Option Addr, ∃ cap7 : Nat, ∃ fp6 : List Nat, ∃ x9 : Int, ∃ x10 : Int, (l6, l7, x9, x10) = s3 ∧ Fr 109 [(0, .pointer (some ⟨b0, 0, none⟩)), (2, .pointer (some ⟨b1, 0, none⟩)), (3, .pointer (some ⟨b2, 0, none⟩)), (4, .slice A6 (l6).length cap6), (5, .int .i64 (x6))] a' ∧ Sl 1 encU w' fp0_0 A0_0 l0_0 ∧ Cl w' b0 123 [.slice A0_0 (l0_0).length cap0_0, .int .i64 (x9), .int .u64 (x10)] ∧ Cl w' b1 27 [.int .i64 (0), .slice none 0 0, .slice none 0 0, .slice none 0 0] ∧ Cl w' b2 27 [.int .i64 (x1), .slice none 0 0, .slice none 0 0, .slice A7 (l7).length cap7] ∧ Ow 1 encI 2 w' fp5 A6 cap6 l6 ∧ Ow 1 encI 2 w' fp6 A7 cap7 l7 ∧ (∀ x ∈ fp5, w0.heap.size ≤ x) ∧ (∀ x ∈ fp6, w0.heap.size ≤ x) ∧ Dj [b1] fp5 ∧ Dj [b2] fp5 ∧ Dj fp6 fp5 ∧ Dj [b1] fp6 ∧ Dj [b2] fp6 ∧ Chg ([b0] ++ []) w0 w' ∧ w0.heap.size ≤ w'.heap.size) ?_ ?_
    ·have hm := hs2
     refine cW_seq ?_
     refine cW_region ?_
     refine wS_pure 2 [(24, .pointer (some ⟨b0, 0, none⟩)), (23, .slice A4 (l4).length cap4)] (by kernel_rfl) ?_
     obtain ⟨y3, hy3, hm⟩ := bindE hm
     refine wS_calls (d := 25) (f := 67) (vs := [.pointer (some ⟨b0, 0, none⟩), .int .i64 (2)]) (by kernel_rfl) ent67 (c_spec_l00Src_pick_bspecl00Src hy3 F12 F13 J0__0_0) ?_
     rintro _ w10 ⟨rfl, F18, hc8⟩
     replace F12 := F12.chg hc8 (Dj.app (J0__0_0).symm Dj.nil)
     replace F14 := F14.chg hc8 (dj1 (Dj.app (Dj.of L0 (low1 G1)).symm Dj.nil))
     replace F15 := F15.chg hc8 (dj1 (Dj.app (Dj.of L0 (low1 G2)).symm Dj.nil))
     replace F16 := F16.chg hc8 (Dj.app (Dj.of L0 G4).symm Dj.nil)
     replace F17 := F17.chg hc8 (Dj.app (Dj.of L0 G5).symm Dj.nil)
     replace hB := hB.inS hc8 (inApp (inMem (fun x hx => (List.mem_append_left _ hx))) inNil)
     replace hZ := Nat.le_trans hZ hc8.size
     clear F13
     refine ⟨.int .i64 (y3.1), rfl, ?_⟩
     refine wS_bs (enc := encI) ([y3.1] : List (Int)) [.int .i64 (y3.1)] (d := 26) (t := 25) (T := 2) (n := 1) (ps := [(0, .int .i64 (y3.1))]) (by kernel_rfl) el25 encI_ok (by rfl) (by omega) (by omega) (by kernel_rfl) (by rfl) ?_
     intro b4 w11 G6 F19 hc9
     have D9 : Dj [b1] [b4] := Dj.of (lt1 F14.lt) (low1 G6)
     have D10 : Dj [b2] [b4] := Dj.of (lt1 F15.lt) (low1 G6)
     have D11 : Dj fp3 [b4] := Dj.of F16.low (low1 G6)
     have D12 : Dj fp4 [b4] := Dj.of F17.low (low1 G6)
     replace F12 := F12.chg hc9 Dj.nil
     replace F18 := F18.chg hc9 notNil
     replace F14 := F14.chg hc9 notNil
     replace F15 := F15.chg hc9 notNil
     replace F16 := F16.chg hc9 Dj.nil
     replace F17 := F17.chg hc9 Dj.nil
     replace hB := hB.inS hc9 inNil
     replace G6 := Nat.le_trans hZ G6
     replace G6 := low1 G6
     replace hZ := Nat.le_trans hZ hc9.size
     obtain ⟨_, hk1, hm⟩ := bindE hm
     replace hk1 := apE hk1
     refine wS_append (enc := encI) (l := (l4 : List (Int))) (l2 := (([y3.1] : List (Int)) : List (Int))) (d := 27) (t := 25) (T := 2) (A := A4) (A2 := (some ⟨b4, 0, none⟩)) (cap := cap4) (cap2 := 1) (by kernel_rfl) el25 encI_ok F16 (F19.sl encI_ok) (by rfl) hk1 ?_
     intro w12 fp7 A8 cap8 F20 hc10 hp1
     have G7 := low_ap G4 hZ hp1
     have D13 : Dj [b1] fp7 := Dj.ap D4 (lt1 F14.lt) hp1
     have D14 : Dj [b2] fp7 := Dj.ap D5 (lt1 F15.lt) hp1
     have D15 : Dj fp4 fp7 := Dj.ap D6 F17.low hp1
     have D16 : Dj [b4] fp7 := Dj.ap (D11).symm F19.low hp1
     replace F12 := F12.chg hc10 (Dj.of L0_0 G4)
     replace F18 := F18.chg hc10 (dj1 (Dj.of L0 G4))
     replace F14 := F14.chg hc10 (dj1 D4)
     replace F15 := F15.chg hc10 (dj1 D5)
     replace F17 := F17.chg hc10 D6
     replace F19 := F19.chg hc10 (D11).symm
     replace hB := hB.inS hc10 (inLow G4)
     replace hZ := Nat.le_trans hZ hc10.size
     refine wS_pure 1 [(4, .slice A8 (l4 ++ (([y3.1] : List (Int)))).length cap8)] (by kernel_rfl) ?_
     refine wS_end (by rfl) ?_
     refine eX_then ?_
     refine cW_seq ?_
     refine cW_region ?_
     refine wS_pure 1 [(6, .int .i64 ((-1)))] (by kernel_rfl) ?_
     refine wS_end (by rfl) ?_
     refine eX_then ?_
     refine cW_seq ?_
     obtain ⟨s4, hs3, hm⟩ := bindE hm
     refine cW_cut (fun a' w' => ∃ x11 : Int, ∃ x12 : Int, ∃ x13 : Int, (x11, x12, x13) = s4 ∧ Fr 109 [(0, .pointer (some ⟨b0, 0, none⟩)), (2, .pointer (some ⟨b1, 0, none⟩)), (3, .pointer (some ⟨b2, 0, none⟩)), (4, .slice A8 (l4 ++ (([y3.1] : List (Int)))).length cap8), (5, .int .i64 (x6)), (6, .int .i64 (x11))] a' ∧ Sl 1 encU w' fp0_0 A0_0 l0_0 ∧ Cl w' b0 123 [.slice A0_0 (l0_0).length cap0_0, .int .i64 (x12), .int .u64 (x13)] ∧ Cl w' b1 27 [.int .i64 (0), .slice none 0 0, .slice none 0 0, .slice none 0 0] ∧ Cl w' b2 27 [.int .i64 (x1), .slice none 0 0, .slice none 0 0, .slice A5 (l5).length cap5] ∧ Ow 1 encI 2 w' fp4 A5 cap5 l5 ∧ Ow 1 encI 2 w' fp7 A8 cap8 (l4 ++ (([y3.1] : List (Int)))) ∧ Chg ([b0] ++ []) w0 w' ∧ w0.heap.size ≤ w'.heap.size) ?_ ?_
     ·have hm := hs3
      refine cW_seq ?_
      refine cW_region ?_
      refine wS_pure 1 [(28, .pointer (some ⟨b0, 0, none⟩))] (by kernel_rfl) ?_
      obtain ⟨y4, hy4, hm⟩ := bindE hm
      refine wS_calls (d := 29) (f := 90) (vs := [.pointer (some ⟨b0, 0, none⟩), .int .i64 (5)]) (by kernel_rfl) ent90 (c_spec_l00Src_one_bspecl00Src hy4 F12 F18 J0__0_0) ?_
      rintro _ w13 ⟨rfl, F21, hc11⟩
      replace F12 := F12.chg hc11 (Dj.app (J0__0_0).symm Dj.nil)
      replace F14 := F14.chg hc11 (dj1 (Dj.app (Dj.of L0 (low1 G1)).symm Dj.nil))
      replace F15 := F15.chg hc11 (dj1 (Dj.app (Dj.of L0 (low1 G2)).symm Dj.nil))
      replace F17 := F17.chg hc11 (Dj.app (Dj.of L0 G5).symm Dj.nil)
      replace F19 := F19.chg hc11 (Dj.app (Dj.of L0 G6).symm Dj.nil)
      replace F20 := F20.chg hc11 (Dj.app (Dj.of L0 G7).symm Dj.nil)
      replace hB := hB.inS hc11 (inApp (inMem (fun x hx => (List.mem_append_left _ hx))) inNil)
      replace hZ := Nat.le_trans hZ hc11.size
      clear F18
      refine ⟨.bool (y4.1), rfl, ?_⟩
      refine wS_end (by rfl) ?_
      refine eX_then ?_
      refine cW_cond (t := y4.1) (by kernel_rfl) (fun hb3 => ?_) (fun hb3 => ?_)
      ·have hm := condT hb3 hm
       refine cW_seq ?_
       refine cW_region ?_
       refine wS_pure 2 [(31, .int .i64 (x6)), (30, .slice A8 (l4 ++ (([y3.1] : List (Int)))).length cap8)] (by kernel_rfl) ?_
       obtain ⟨x14, hx2, hm⟩ := bindE hm
       refine wS_idx (d := 32) (T := 25) (A := A8) (n := (l4 ++ (([y3.1] : List (Int)))).length) (cap := cap8) (kd := .i64) (m := x6) (by kernel_rfl) sl25 ((F20.sl encI_ok).is hx2) ?_
       refine wS_load1 (d := 33) (T := 2) (ad := (elA A8 1 (x6) 0)) (v := .int .i64 (x14)) (by kernel_rfl) vt2 (Sl.cell (F20.sl encI_ok) hx2 0 (by rfl)) ?_
       refine wS_pure 1 [(6, .int .i64 (x14))] (by kernel_rfl) ?_
       refine wS_end (by rfl) ?_
       refine eX_then ?_
       refine cW_seq ?_
       refine cW_region ?_
       refine wS_pure 1 [(34, .pointer (some ⟨b0, 0, none⟩))] (by kernel_rfl) ?_
       obtain ⟨y5, hy5, hm⟩ := bindE hm
       refine wS_calls (d := 35) (f := 90) (vs := [.pointer (some ⟨b0, 0, none⟩), .int .i64 (6)]) (by kernel_rfl) ent90 (c_spec_l00Src_one_bspecl00Src hy5 F12 F21 J0__0_0) ?_
       rintro _ w14 ⟨rfl, F22, hc12⟩
       replace F12 := F12.chg hc12 (Dj.app (J0__0_0).symm Dj.nil)
       replace F14 := F14.chg hc12 (dj1 (Dj.app (Dj.of L0 (low1 G1)).symm Dj.nil))
       replace F15 := F15.chg hc12 (dj1 (Dj.app (Dj.of L0 (low1 G2)).symm Dj.nil))
       replace F17 := F17.chg hc12 (Dj.app (Dj.of L0 G5).symm Dj.nil)
       replace F19 := F19.chg hc12 (Dj.app (Dj.of L0 G6).symm Dj.nil)
       replace F20 := F20.chg hc12 (Dj.app (Dj.of L0 G7).symm Dj.nil)
       replace hB := hB.inS hc12 (inApp (inMem (fun x hx => (List.mem_append_left _ hx))) inNil)
       replace hZ := Nat.le_trans hZ hc12.size
       clear F21
       refine ⟨.bool (y5.1), rfl, ?_⟩
       refine wS_end (by rfl) ?_
       refine eX_then ?_
       refine cW_cond (t := y5.1) (by kernel_rfl) (fun hb4 => ?_) (fun hb4 => ?_)
       ·have hm := condT hb4 hm
        refine cW_region ?_
        refine wS_pure 3 [(6, .int .i64 (wr (1 - x14))), (37, .int .i64 (wr (1 - x14))), (36, .int .i64 (x14))] (by kernel_rfl) ?_
        refine wS_end (by rfl) ?_
        have hq : (some ((wr (1 - x14), y5.2.1, y5.2.2)) : Option (Int × Int × Int)) = some _ := hm
        replace hq := someE hq
        subst hq
        exact eX_J (fun hst => ⟨wr (1 - x14), y5.2.1, y5.2.2, rfl, Fr.of hst (by kernel_rfl), F12, F22, F14, F15, F17, F20, hB, hZ⟩)
       ·have hm := condF hb4 hm
        refine cW_skip ?_
        have hq : (some ((x14, y5.2.1, y5.2.2)) : Option (Int × Int × Int)) = some _ := hm
        replace hq := someE hq
        subst hq
        exact eX_J (fun hst => ⟨x14, y5.2.1, y5.2.2, rfl, Fr.of hst (by kernel_rfl), F12, F22, F14, F15, F17, F20, hB, hZ⟩)
      ·have hm := condF hb3 hm
       refine cW_skip ?_
       have hq : (some (((-1), y4.2.1, y4.2.2)) : Option (Int × Int × Int)) = some _ := hm
       replace hq := someE hq
       subst hq
       exact eX_J (fun hst => ⟨(-1), y4.2.1, y4.2.2, rfl, Fr.of hst (by kernel_rfl), F12, F21, F14, F15, F17, F20, hB, hZ⟩)
     ·rintro a' w15 ⟨x11, x12, x13, hJ, hF3, F23, F24, F25, F26, F27, F28, hB, hZ⟩
      subst hJ
      refine Fr.goX hF3 (by kernel_rfl) ?_
      refine eX_then ?_
      refine cW_region ?_
      refine wS_pure 1 [(38, .pointer (some ⟨b2, 3, none⟩))] (by kernel_rfl) ?_
      refine wS_load1 (d := 39) (T := 25) (ad := ⟨b2, 3, none⟩) (v := .slice A5 (l5).length cap5) (by kernel_rfl) vt25 ((F26).cell 3) ?_
      refine wS_pure 1 [(40, .int .i64 (x11))] (by kernel_rfl) ?_
      refine wS_bs (enc := encI) ([x11] : List (Int)) [.int .i64 (x11)] (d := 41) (t := 25) (T := 2) (n := 1) (ps := [(0, .int .i64 (x11))]) (by kernel_rfl) el25 encI_ok (by rfl) (by omega) (by omega) (by kernel_rfl) (by rfl) ?_
      intro b5 w16 G8 F29 hc13
      have D17 : Dj [b1] [b5] := Dj.of (lt1 F25.lt) (low1 G8)
      have D18 : Dj [b2] [b5] := Dj.of (lt1 F26.lt) (low1 G8)
      have D19 : Dj fp4 [b5] := Dj.of F27.low (low1 G8)
      have D20 : Dj fp7 [b5] := Dj.of F28.low (low1 G8)
      replace F23 := F23.chg hc13 Dj.nil
      replace F24 := F24.chg hc13 notNil
      replace F25 := F25.chg hc13 notNil
      replace F26 := F26.chg hc13 notNil
      replace F27 := F27.chg hc13 Dj.nil
      replace F28 := F28.chg hc13 Dj.nil
      replace hB := hB.inS hc13 inNil
      replace G8 := Nat.le_trans hZ G8
      replace G8 := low1 G8
      replace hZ := Nat.le_trans hZ hc13.size
      obtain ⟨_, hk2, hm⟩ := bindE hm
      replace hk2 := apE hk2
      refine wS_append (enc := encI) (l := (l5 : List (Int))) (l2 := (([x11] : List (Int)) : List (Int))) (d := 42) (t := 25) (T := 2) (A := A5) (A2 := (some ⟨b5, 0, none⟩)) (cap := cap5) (cap2 := 1) (by kernel_rfl) el25 encI_ok F27 (F29.sl encI_ok) (by rfl) hk2 ?_
      intro w17 fp8 A9 cap9 F30 hc14 hp2
      have G9 := low_ap G5 hZ hp2
      have D21 : Dj [b1] fp8 := Dj.ap D7 (lt1 F25.lt) hp2
      have D22 : Dj [b2] fp8 := Dj.ap D8 (lt1 F26.lt) hp2
      have D23 : Dj fp7 fp8 := Dj.ap (D15).symm F28.low hp2
      have D24 : Dj [b5] fp8 := Dj.ap (D19).symm F29.low hp2
      replace F23 := F23.chg hc14 (Dj.of L0_0 G5)
      replace F24 := F24.chg hc14 (dj1 (Dj.of L0 G5))
      replace F25 := F25.chg hc14 (dj1 D7)
      replace F26 := F26.chg hc14 (dj1 D8)
      replace F28 := F28.chg hc14 (D15).symm
      replace F29 := F29.chg hc14 (D19).symm
      replace hB := hB.inS hc14 (inLow G5)
      replace hZ := Nat.le_trans hZ hc14.size
      refine wS_pure 1 [(43, .pointer (some ⟨b2, 3, none⟩))] (by kernel_rfl) ?_
      refine wS_store (T := 25) (g := b2) (o := 3) (ad := ⟨b2, 3, none⟩) (v := .slice A9 (l5 ++ (([x11] : List (Int)))).length cap9) (vs := [.slice A9 (l5 ++ (([x11] : List (Int)))).length cap9]) (by kernel_rfl) (by rfl) sz25 (by rfl) (by rfl) F26 (by simp only [List.length_cons, List.length_nil]; omega) ?_
      intro w18 F31 hc15
      replace F23 := F23.chg hc15 (Dj.of L0_0 (low1 G2))
      replace F24 := F24.chg hc15 (dj1 (Dj.of L0 (low1 G2)))
      replace F25 := F25.chg hc15 (dj1 D1)
      replace F28 := F28.chg hc15 (D14).symm
      replace F29 := F29.chg hc15 (D18).symm
      replace F30 := F30.chg hc15 (D22).symm
      replace hB := hB.inS hc15 (inLow (low1 G2))
      replace hZ := Nat.le_trans hZ hc15.size
      replace F31 : Cl w18 b2 27 [.int .i64 (x1), .slice none 0 0, .slice none 0 0, .slice A9 (l5 ++ (([x11] : List (Int)))).length cap9] := F31
      clear F26
      refine wS_end (by rfl) ?_
      have hq : (some ((l4 ++ (([y3.1] : List (Int))), l5 ++ (([x11] : List (Int))), x12, x13)) : Option ((List (Int)) × (List (Int)) × Int × Int)) = some _ := hm
      replace hq := someE hq
      subst hq
      exact eX_J (fun hst => ⟨l4 ++ (([y3.1] : List (Int))), A8, cap8, fp7, l5 ++ (([x11] : List (Int))), A9, cap9, fp8, x12, x13, rfl, Fr.of hst (by kernel_rfl), F23, F24, F25, F31, F28, F30, G7, G9, D13, D14, (D23).symm, D21, D22, hB, hZ⟩)
    ·rintro a' w19 ⟨l6, A6, cap6, fp5, l7, A7, cap7, fp6, x9, x10, hJ, hF4, F32, F33, F34, F35, F36, F37, G10, G11, D25, D26, D27, D28, D29, hB, hZ⟩
     subst hJ
     refine Fr.goX hF4 (by kernel_rfl) ?_
     refine eX_block ?_
     refine eX_then ?_
     refine cW_region ?_
     refine wS_pure 3 [(5, .int .i64 (wr (x6 + 1))), (22, .int .i64 (wr (x6 + 1))), (21, .int .i64 (x6))] (by kernel_rfl) ?_
     refine wS_end (by rfl) ?_
     have hq : (some (Ctl.next ((l6, wr (x6 + 1), l7, x9, x10))) : Option (Ctl ((List (Int)) × Int × (List (Int)) × Int × Int) ((List (Int)) × (List (Int)) × Int × Int))) = some _ := hm
     replace hq := someE hq
     subst hq
     exact eX_next hx1 (fun hst => ⟨l6, A6, cap6, fp5, wr (x6 + 1), l7, A7, cap7, fp6, x9, x10, rfl, Fr.of hst (by kernel_rfl), F32, F33, F34, F35, F36, F37, G10, G11, D25, D26, D27, D28, D29, hB, hZ⟩)
   ·have hm := condF hb2 hm
    refine cW_exit ?_
    refine eX_then_exit ?_
    have hq : (some (Ctl.out ((l4, l5, x7, x8))) : Option (Ctl ((List (Int)) × Int × (List (Int)) × Int × Int) ((List (Int)) × (List (Int)) × Int × Int))) = some _ := hm
    replace hq := someE hq
    subst hq
    refine eX_outX hx1 (fun hr2 => ?_)
    replace hr2 := hr2.symm
    subst hr2
    refine eX_block_hit ?_
    exact eX_J (fun hst => ⟨l4, A4, cap4, fp3, l5, A5, cap5, fp4, x7, x8, rfl, Fr.of hst (by kernel_rfl), F12, F13, F14, F15, F16, F17, G4, G5, D4, D5, D6, D7, D8, hB, hZ⟩)
  ·rintro a' w20 ⟨l1, A1, cap1, fp1, l3, A3, cap3, fp2, x4, x5, hJ, hF5, F38, F39, F40, F41, F42, F43, G12, G13, D30, D31, D32, D33, D34, hB, hZ⟩
   subst hJ
   refine Fr.goX hF5 (by kernel_rfl) ?_
   refine eX_then ?_
   refine cW_seq ?_
   refine cW_region ?_
   refine wS_pure 1 [(44, .pointer (some ⟨b0, 0, none⟩))] (by kernel_rfl) ?_
   obtain ⟨y6, hy6, hm⟩ := bindE hm
   refine wS_calls (d := 45) (f := 90) (vs := [.pointer (some ⟨b0, 0, none⟩), .int .i64 (4)]) (by kernel_rfl) ent90 (c_spec_l00Src_one_bspecl00Src hy6 F38 F39 J0__0_0) ?_
   rintro _ w21 ⟨rfl, F44, hc16⟩
   replace F38 := F38.chg hc16 (Dj.app (J0__0_0).symm Dj.nil)
   replace F40 := F40.chg hc16 (dj1 (Dj.app (Dj.of L0 (low1 G1)).symm Dj.nil))
   replace F41 := F41.chg hc16 (dj1 (Dj.app (Dj.of L0 (low1 G2)).symm Dj.nil))
   replace F42 := F42.chg hc16 (Dj.app (Dj.of L0 G12).symm Dj.nil)
   replace F43 := F43.chg hc16 (Dj.app (Dj.of L0 G13).symm Dj.nil)
   replace hB := hB.inS hc16 (inApp (inMem (fun x hx => (List.mem_append_left _ hx))) inNil)
   replace hZ := Nat.le_trans hZ hc16.size
   clear F39
   refine ⟨.bool (y6.1), rfl, ?_⟩
   refine wS_pure 1 [(7, .bool (y6.1))] (by kernel_rfl) ?_
   refine wS_end (by rfl) ?_
   refine eX_then ?_
   refine cW_seq ?_
   refine cW_seq ?_
   refine cW_region ?_
   refine wS_pure 1 [(8, .int .i64 (0))] (by kernel_rfl) ?_
   refine wS_end (by rfl) ?_
   refine eX_then ?_
   obtain ⟨r2, hr3, hm⟩ := bindE hm
   have hm2 := hm
   refine cW_cut (fun a' w' => ∃ l8 : List (List (Int)), ∃ A10 : Option Addr, ∃ cap10 : Nat, ∃ fp9 : List Nat, ∃ fr1 : List Nat, ∃ l9 : List (List (Int)), ∃ A11 : Option Addr, ∃ cap11 : Nat, ∃ fp10 : List Nat, ∃ fr2 : List Nat, ∃ x15 : Int, ∃ x16 : Int, (l8, l9, x15, x16) = r2 ∧ Fr 109 [(2, .pointer (some ⟨b1, 0, none⟩)), (3, .pointer (some ⟨b2, 0, none⟩))] a' ∧ Sl 1 encU w' fp0_0 A0_0 l0_0 ∧ Cl w' b0 123 [.slice A0_0 (l0_0).length cap0_0, .int .i64 (x15), .int .u64 (x16)] ∧ Cl w' b1 27 [.int .i64 (0), .slice none 0 0, .slice none 0 0, .slice none 0 0] ∧ Cl w' b2 27 [.int .i64 (x1), .slice A10 (l8).length cap10, .slice A11 (l9).length cap11, .slice A3 (l3).length cap3] ∧ Ow 1 encI 2 w' fp2 A3 cap3 l3 ∧ OwR 1 encI 25 2 w' fp9 fr1 A10 cap10 l8 ∧ OwR 1 encI 25 2 w' fp10 fr2 A11 cap11 l9 ∧ (∀ x ∈ (fp9 ++ fr1), w0.heap.size ≤ x) ∧ (∀ x ∈ (fp10 ++ fr2), w0.heap.size ≤ x) ∧ Dj [b1] (fp9 ++ fr1) ∧ Dj [b2] (fp9 ++ fr1) ∧ Dj fp2 (fp9 ++ fr1) ∧ Dj (fp10 ++ fr2) (fp9 ++ fr1) ∧ Dj [b1] (fp10 ++ fr2) ∧ Dj [b2] (fp10 ++ fr2) ∧ Dj fp2 (fp10 ++ fr2) ∧ Chg ([b0] ++ []) w0 w' ∧ w0.heap.size ≤ w'.heap.size) ?_ ?_
   ·refine cW_block ?_
    refine cW_loop _ (fun (s5 : Bool × Int × (List (List (Int))) × (List (List (Int))) × Int × Int) a' w' => ∃ x17 : Bool, ∃ x18 : Int, ∃ l10 : List (List (Int)), ∃ A12 : Option Addr, ∃ cap12 : Nat, ∃ fp11 : List Nat, ∃ fr3 : List Nat, ∃ l11 : List (List (Int)), ∃ A13 : Option Addr, ∃ cap13 : Nat, ∃ fp12 : List Nat, ∃ fr4 : List Nat, ∃ x19 : Int, ∃ x20 : Int, (x17, x18, l10, l11, x19, x20) = s5 ∧ Fr 109 [(0, .pointer (some ⟨b0, 0, none⟩)), (2, .pointer (some ⟨b1, 0, none⟩)), (3, .pointer (some ⟨b2, 0, none⟩)), (4, .slice A1 (l1).length cap1), (7, .bool (x17)), (8, .int .i64 (x18))] a' ∧ Sl 1 encU w' fp0_0 A0_0 l0_0 ∧ Cl w' b0 123 [.slice A0_0 (l0_0).length cap0_0, .int .i64 (x19), .int .u64 (x20)] ∧ Cl w' b1 27 [.int .i64 (0), .slice none 0 0, .slice none 0 0, .slice none 0 0] ∧ Cl w' b2 27 [.int .i64 (x1), .slice A12 (l10).length cap12, .slice A13 (l11).length cap13, .slice A3 (l3).length cap3] ∧ Ow 1 encI 2 w' fp1 A1 cap1 l1 ∧ Ow 1 encI 2 w' fp2 A3 cap3 l3 ∧ OwR 1 encI 25 2 w' fp11 fr3 A12 cap12 l10 ∧ OwR 1 encI 25 2 w' fp12 fr4 A13 cap13 l11 ∧ (∀ x ∈ (fp11 ++ fr3), w0.heap.size ≤ x) ∧ (∀ x ∈ (fp12 ++ fr4), w0.heap.size ≤ x) ∧ Dj [b1] (fp11 ++ fr3) ∧ Dj [b2] (fp11 ++ fr3) ∧ Dj fp1 (fp11 ++ fr3) ∧ Dj fp2 (fp11 ++ fr3) ∧ Dj (fp12 ++ fr4) (fp11 ++ fr3) ∧ Dj [b1] (fp12 ++ fr4) ∧ Dj [b2] (fp12 ++ fr4) ∧ Dj fp1 (fp12 ++ fr4) ∧ Dj fp2 (fp12 ++ fr4) ∧ Chg ([b0] ++ []) w0 w' ∧ w0.heap.size ≤ w'.heap.size) hr3 (fun hst => ⟨y6.1, 0, [], none, 0, [], [], [], none, 0, [], [], y6.2.1, y6.2.2, rfl, Fr.of hst (by kernel_rfl), F38, F44, F40, F41, F42, F43, OwR.nil _, OwR.nil _, (lowApp lowNil lowNil), (lowApp lowNil lowNil), (Dj.app Dj.nil Dj.nil), (Dj.app Dj.nil Dj.nil), (Dj.app Dj.nil Dj.nil), (Dj.app Dj.nil Dj.nil), (Dj.app Dj.nil Dj.nil), (Dj.app Dj.nil Dj.nil), (Dj.app Dj.nil Dj.nil), (Dj.app Dj.nil Dj.nil), (Dj.app Dj.nil Dj.nil), hB, hZ⟩) ?_
    rintro _ c2 a' w22 ⟨x17, x18, l10, A12, cap12, fp11, fr3, l11, A13, cap13, fp12, fr4, x19, x20, rfl, hF6, F45, F46, F47, F48, F49, F50, F51, F52, G14, G15, D35, D36, D37, D38, D39, D40, D41, D42, D43, hB, hZ⟩ hx3
    refine Fr.goOn hF6 (by kernel_rfl) ?_
    have hm := hx3
    unfold m_spec_l07DrawOk_bspecl00Src_s4 at hm
    refine cW_seq ?_
    refine cW_seq ?_
    refine cW_region ?_
    refine wS_pure 2 [(47, .pointer (some ⟨b2, 0, none⟩)), (46, .int .i64 (x18))] (by kernel_rfl) ?_
    refine wS_load1 (d := 48) (T := 2) (ad := ⟨b2, 0, none⟩) (v := .int .i64 (x1)) (by kernel_rfl) vt2 ((F48).cell 0) ?_
    refine wS_pure 1 [(49, .bool (decide (x18 < x1)))] (by kernel_rfl) ?_
    refine wS_end (by rfl) ?_
    refine eX_then ?_
    refine cW_cond (t := decide (x18 < x1)) (by kernel_rfl) (fun hb5 => ?_) (fun hb5 => ?_)
    ·have hm := condT hb5 hm
     refine cW_skip ?_
     refine eX_then ?_
     refine cW_seq ?_
     refine cW_block ?_
     refine cW_seq ?_
     refine cW_region ?_
     refine wS_pure 3 [(9, .int .i64 (wr (x18 + 1))), (53, .int .i64 (wr (x18 + 1))), (52, .int .i64 (x18))] (by kernel_rfl) ?_
     refine wS_end (by rfl) ?_
     refine eX_then ?_
     obtain ⟨r3, hr4, hm⟩ := bindE hm
     have hm3 := hm
     refine cW_cut (fun a' w' => ∃ x21 : Bool, ∃ l12 : List (List (Int)), ∃ A14 : Option Addr, ∃ cap14 : Nat, ∃ fp13 : List Nat, ∃ fr5 : List Nat, ∃ l13 : List (List (Int)), ∃ A15 : Option Addr, ∃ cap15 : Nat, ∃ fp14 : List Nat, ∃ fr6 : List Nat, ∃ x22 : Int, ∃ x23 : Int, (x21, l12, l13, x22, x23) = r3 ∧ Fr 109 [(0, .pointer (some ⟨b0, 0, none⟩)), (2, .pointer (some ⟨b1, 0, none⟩)), (3, .pointer (some ⟨b2, 0, none⟩)), (4, .slice A1 (l1).length cap1), (7, .bool (x21)), (8, .int .i64 (x18))] a' ∧ Sl 1 encU w' fp0_0 A0_0 l0_0 ∧ Cl w' b0 123 [.slice A0_0 (l0_0).length cap0_0, .int .i64 (x22), .int .u64 (x23)] ∧ Cl w' b1 27 [.int .i64 (0), .slice none 0 0, .slice none 0 0, .slice none 0 0] ∧ Cl w' b2 27 [.int .i64 (x1), .slice A14 (l12).length cap14, .slice A15 (l13).length cap15, .slice A3 (l3).length cap3] ∧ Ow 1 encI 2 w' fp1 A1 cap1 l1 ∧ Ow 1 encI 2 w' fp2 A3 cap3 l3 ∧ OwR 1 encI 25 2 w' fp13 fr5 A14 cap14 l12 ∧ OwR 1 encI 25 2 w' fp14 fr6 A15 cap15 l13 ∧ (∀ x ∈ (fp13 ++ fr5), w0.heap.size ≤ x) ∧ (∀ x ∈ (fp14 ++ fr6), w0.heap.size ≤ x) ∧ Dj [b1] (fp13 ++ fr5) ∧ Dj [b2] (fp13 ++ fr5) ∧ Dj fp1 (fp13 ++ fr5) ∧ Dj fp2 (fp13 ++ fr5) ∧ Dj (fp14 ++ fr6) (fp13 ++ fr5) ∧ Dj [b1] (fp14 ++ fr6) ∧ Dj [b2] (fp14 ++ fr6) ∧ Dj fp1 (fp14 ++ fr6) ∧ Dj fp2 (fp14 ++ fr6) ∧ Chg ([b0] ++ []) w0 w' ∧ w0.heap.size ≤ w'.heap.size) ?_ ?_
     ·refine cW_block ?_
      refine cW_loop _ (fun (s6 : Bool × Int × (List (List (Int))) × (List (List (Int))) × Int × Int) a' w' => ∃ x24 : Bool, ∃ x25 : Int, ∃ l14 : List (List (Int)), ∃ A16 : Option Addr, ∃ cap16 : Nat, ∃ fp15 : List Nat, ∃ fr7 : List Nat, ∃ l15 : List (List (Int)), ∃ A17 : Option Addr, ∃ cap17 : Nat, ∃ fp16 : List Nat, ∃ fr8 : List Nat, ∃ x26 : Int, ∃ x27 : Int, (x24, x25, l14, l15, x26, x27) = s6 ∧ Fr 109 [(0, .pointer (some ⟨b0, 0, none⟩)), (2, .pointer (some ⟨b1, 0, none⟩)), (3, .pointer (some ⟨b2, 0, none⟩)), (4, .slice A1 (l1).length cap1), (7, .bool (x24)), (8, .int .i64 (x18)), (9, .int .i64 (x25))] a' ∧ Sl 1 encU w' fp0_0 A0_0 l0_0 ∧ Cl w' b0 123 [.slice A0_0 (l0_0).length cap0_0, .int .i64 (x26), .int .u64 (x27)] ∧ Cl w' b1 27 [.int .i64 (0), .slice none 0 0, .slice none 0 0, .slice none 0 0] ∧ Cl w' b2 27 [.int .i64 (x1), .slice A16 (l14).length cap16, .slice A17 (l15).length cap17, .slice A3 (l3).length cap3] ∧ Ow 1 encI 2 w' fp1 A1 cap1 l1 ∧ Ow 1 encI 2 w' fp2 A3 cap3 l3 ∧ OwR 1 encI 25 2 w' fp15 fr7 A16 cap16 l14 ∧ OwR 1 encI 25 2 w' fp16 fr8 A17 cap17 l15 ∧ (∀ x ∈ (fp15 ++ fr7), w0.heap.size ≤ x) ∧ (∀ x ∈ (fp16 ++ fr8), w0.heap.size ≤ x) ∧ Dj [b1] (fp15 ++ fr7) ∧ Dj [b2] (fp15 ++ fr7) ∧ Dj fp1 (fp15 ++ fr7) ∧ Dj fp2 (fp15 ++ fr7) ∧ Dj (fp16 ++ fr8) (fp15 ++ fr7) ∧ Dj [b1] (fp16 ++ fr8) ∧ Dj [b2] (fp16 ++ fr8) ∧ Dj fp1 (fp16 ++ fr8) ∧ Dj fp2 (fp16 ++ fr8) ∧ Chg ([b0] ++ []) w0 w' ∧ w0.heap.size ≤ w'.heap.size) hr4 (fun hst => ⟨x17, wr (x18 + 1), l10, A12, cap12, fp11, fr3, l11, A13, cap13, fp12, fr4, x19, x20, rfl, Fr.of hst (by kernel_rfl), F45, F46, F47, F48, F49, F50, F51, F52, G14, G15, D35, D36, D37, D38, D39, D40, D41, D42, D43, hB, hZ⟩) ?_
      rintro _ c3 a' w23 ⟨x24, x25, l14, A16, cap16, fp15, fr7, l15, A17, cap17, fp16, fr8, x26, x27, rfl, hF7, F53, F54, F55, F56, F57, F58, F59, F60, G16, G17, D44, D45, D46, D47, D48, D49, D50, D51, D52, hB, hZ⟩ hx4
      refine Fr.goOn hF7 (by kernel_rfl) ?_
      have hm := hx4
      unfold m_spec_l07DrawOk_bspecl00Src_s5 at hm
      refine cW_seq ?_
      refine cW_seq ?_
      refine cW_region ?_
      refine wS_pure 2 [(55, .pointer (some ⟨b2, 0, none⟩)), (54, .int .i64 (x25))] (by kernel_rfl) ?_
      refine wS_load1 (d := 56) (T := 2) (ad := ⟨b2, 0, none⟩) (v := .int .i64 (x1)) (by kernel_rfl) vt2 ((F56).cell 0) ?_
      refine wS_pure 1 [(57, .bool (decide (x25 < x1)))] (by kernel_rfl) ?_
      refine wS_end (by rfl) ?_
      refine eX_then ?_
      refine cW_cond (t := decide (x25 < x1)) (by kernel_rfl) (fun hb6 => ?_) (fun hb6 => ?_)
      ·have hm := condT hb6 hm
       refine cW_skip ?_
       refine eX_then ?_
       refine cW_seq ?_
       refine cW_block ?_
       obtain ⟨s7, hs4, hm⟩ := bindE hm
       refine cW_cut (fun a' w' => ∃ x28 : Bool, ∃ l16 : List (List (Int)), ∃ A18 : Option Addr, ∃ cap18 : Nat, ∃ fp17 : List Nat, ∃ fr9 : List Nat, ∃ l17 : List (List (Int)), ∃ A19 : Option Addr, ∃ cap19 : Nat, ∃ fp18 : List Nat, ∃ fr10 : List Nat, ∃ x29 : Int, ∃ x30 : Int, (x28, l16, l17, x29, x30) = s7 ∧ Fr 109 [(0, .pointer (some ⟨b0, 0, none⟩)), (2, .pointer (some ⟨b1, 0, none⟩)), (3, .pointer (some ⟨b2, 0, none⟩)), (4, .slice A1 (l1).length cap1), (7, .bool (x28)), (8, .int .i64 (x18)), (9, .int .i64 (x25))] a' ∧ Sl 1 encU w' fp0_0 A0_0 l0_0 ∧ Cl w' b0 123 [.slice A0_0 (l0_0).length cap0_0, .int .i64 (x29), .int .u64 (x30)] ∧ Cl w' b1 27 [.int .i64 (0), .slice none 0 0, .slice none 0 0, .slice none 0 0] ∧ Cl w' b2 27 [.int .i64 (x1), .slice A18 (l16).length cap18, .slice A19 (l17).length cap19, .slice A3 (l3).length cap3] ∧ Ow 1 encI 2 w' fp1 A1 cap1 l1 ∧ Ow 1 encI 2 w' fp2 A3 cap3 l3 ∧ OwR 1 encI 25 2 w' fp17 fr9 A18 cap18 l16 ∧ OwR 1 encI 25 2 w' fp18 fr10 A19 cap19 l17 ∧ (∀ x ∈ (fp17 ++ fr9), w0.heap.size ≤ x) ∧ (∀ x ∈ (fp18 ++ fr10), w0.heap.size ≤ x) ∧ Dj [b1] (fp17 ++ fr9) ∧ Dj [b2] (fp17 ++ fr9) ∧ Dj fp1 (fp17 ++ fr9) ∧ Dj fp2 (fp17 ++ fr9) ∧ Dj (fp18 ++ fr10) (fp17 ++ fr9) ∧ Dj [b1] (fp18 ++ fr10) ∧ Dj [b2] (fp18 ++ fr10) ∧ Dj fp1 (fp18 ++ fr10) ∧ Dj fp2 (fp18 ++ fr10) ∧ Chg ([b0] ++ []) w0 w' ∧ w0.heap.size ≤ w'.heap.size) ?_ ?_
       ·have hm := hs4
        refine cW_seq ?_
        obtain ⟨s8, hs5, hm⟩ := bindE hm
        refine cW_cut (fun a' w' => ∃ x31 : Bool, ∃ l18 : List (List (Int)), ∃ A20 : Option Addr, ∃ cap20 : Nat, ∃ fp19 : List Nat, ∃ fr11 : List Nat, ∃ x32 : Int, ∃ x33 : Int, (x31, l18, x32, x33) = s8 ∧ Fr 109 [(0, .pointer (some ⟨b0, 0, none⟩)), (2, .pointer (some ⟨b1, 0, none⟩)), (3, .pointer (some ⟨b2, 0, none⟩)), (4, .slice A1 (l1).length cap1), (7, .bool (x31)), (8, .int .i64 (x18)), (9, .int .i64 (x25))] a' ∧ Sl 1 encU w' fp0_0 A0_0 l0_0 ∧ Cl w' b0 123 [.slice A0_0 (l0_0).length cap0_0, .int .i64 (x32), .int .u64 (x33)] ∧ Cl w' b1 27 [.int .i64 (0), .slice none 0 0, .slice none 0 0, .slice none 0 0] ∧ Cl w' b2 27 [.int .i64 (x1), .slice A20 (l18).length cap20, .slice A17 (l15).length cap17, .slice A3 (l3).length cap3] ∧ Ow 1 encI 2 w' fp1 A1 cap1 l1 ∧ Ow 1 encI 2 w' fp2 A3 cap3 l3 ∧ OwR 1 encI 25 2 w' fp16 fr8 A17 cap17 l15 ∧ OwR 1 encI 25 2 w' fp19 fr11 A20 cap20 l18 ∧ (∀ x ∈ (fp19 ++ fr11), w0.heap.size ≤ x) ∧ Dj [b1] (fp19 ++ fr11) ∧ Dj [b2] (fp19 ++ fr11) ∧ Dj fp1 (fp19 ++ fr11) ∧ Dj fp2 (fp19 ++ fr11) ∧ Dj (fp16 ++ fr8) (fp19 ++ fr11) ∧ Chg ([b0] ++ []) w0 w' ∧ w0.heap.size ≤ w'.heap.size) ?_ ?_
        ·have hm := hs5
         refine cW_seq ?_
         refine cW_drawnTail [b0] 19 (by kernel_rfl) (by kernel_rfl) (fun w24 hc17 => ?_)
         replace F53 := F53.chg hc17 Dj.nil
         replace F54 := F54.chg hc17 notNil
         replace F55 := F55.chg hc17 notNil
         replace F56 := F56.chg hc17 notNil
         replace F57 := F57.chg hc17 Dj.nil
         replace F58 := F58.chg hc17 Dj.nil
         replace F59 := F59.chg hc17 Dj.nil
         replace F60 := F60.chg hc17 Dj.nil
         replace hB := hB.inS hc17 inNil
         replace hZ := Nat.le_trans hZ hc17.size
         have hS := Chg.refl [b0] w24
         have Z1 := F53
         have Z2 := F54
         have Z3 := F55
         have Z4 := F56
         have Z5 := F57
         have Z6 := F58
         have Z7 := F59
         have Z8 := F60
         refine wH_take [0] [0] [(60, .pointer (some ⟨b0, 0, none⟩))] (by kernel_rfl) (qT (qT (qT (qT (qT (qB (qT (qL (qB (qT (qB (qT (qL (qB (qT (qT qZ)))))))))))))))) (by kernel_rfl) ?_
         refine wH_all [1] (by rfl) (by kernel_rfl) (by simp) ⟨⟨by kernel_rfl, ?_⟩, trivial⟩
         obtain ⟨y7, hy7, hm⟩ := bindE hm
         refine wS_calls (d := 61) (f := 90) (vs := [.pointer (some ⟨b0, 0, none⟩), .int .i64 (4)]) (by kernel_rfl) ent90 (c_spec_l00Src_one_bspecl00Src hy7 F53 F54 J0__0_0) ?_
         rintro _ w25 ⟨rfl, F61, hc18⟩
         replace F53 := F53.chg hc18 (Dj.app (J0__0_0).symm Dj.nil)
         replace F55 := F55.chg hc18 (dj1 (Dj.app (Dj.of L0 (low1 G1)).symm Dj.nil))
         replace F56 := F56.chg hc18 (dj1 (Dj.app (Dj.of L0 (low1 G2)).symm Dj.nil))
         replace F57 := F57.chg hc18 (Dj.app (Dj.of L0 G12).symm Dj.nil)
         replace F58 := F58.chg hc18 (Dj.app (Dj.of L0 G13).symm Dj.nil)
         replace F59 := F59.chg hc18 (Dj.app (Dj.of L0 G16).symm Dj.nil)
         replace F60 := F60.chg hc18 (Dj.app (Dj.of L0 G17).symm Dj.nil)
         replace hB := hB.inS hc18 (inApp (inMem (fun x hx => (List.mem_append_left _ hx))) inNil)
         have hSz := hS
         replace hS := hS.trans (hc18.more (fun x hx => by simpa using hx))
         replace hZ := Nat.le_trans hZ hc18.size
         clear F54
         refine ⟨.bool (y7.1), rfl, ?_⟩
         refine wS_end (by kernel_rfl) ?_
         refine eX_KH hS ?_
         refine wH_take [2] [2, 1, 0] [(62, .bool (y7.1))] (by kernel_rfl) (qT (qT (qT (qT (qT (qB (qT (qL (qB (qT (qB (qT (qL (qB (qT (qT qZ)))))))))))))))) (by kernel_rfl) ?_
         refine wH_bool y7.1 (fun hb7 => ?_) (fun hb7 => ?_)
         ·have hm := condT hb7 hm
          rewrite [hb7]
          refine wH_take [3] [3, 2, 1, 0] [(63, .pointer (some ⟨b2, 1, none⟩))] (by kernel_rfl) (qT (qT (qT (qT (qT (qB (qT (qL (qB (qT (qB (qT (qL (qB (qT (qT qZ)))))))))))))))) (by kernel_rfl) ?_
          refine wH_load1 (i := 4) (d := 64) (T := 24) (ad := ⟨b2, 1, none⟩) (v := .slice A16 (l14).length cap16) (by kernel_rfl) (qT (qT (qT (qT (qT (qB (qT (qL (qB (qT (qB (qT (qL (qB (qT (qT qZ)))))))))))))))) (by kernel_rfl) (by kernel_rfl) vt24 (fun W hW => (Z4.chg hW (dj1 (Dj.of L0 (low1 G2)).symm)).cell 1) ?_
          refine wH_take [5, 6, 7, 8] [8, 7, 6, 5, 4, 3, 2, 1, 0] [(68, .bool (decide ((((l14).length : Int)) < 12))), (67, .bool (decide ((((l14).length : Int)) < 12))), (66, .bool (decide ((((l14).length : Int)) < 12))), (65, .int .i64 (((l14).length : Int)))] (by kernel_rfl) (qT (qT (qT (qT (qT (qB (qT (qL (qB (qT (qB (qT (qL (qB (qT (qT qZ)))))))))))))))) (by kernel_rfl) ?_
          refine wH_bool (decide ((((l14).length : Int)) < 12)) (fun hb8 => ?_) (fun hb8 => ?_)
          ·have hm := condT hb8 hm
           rewrite [hb8]
           refine wH_take [9, 10] [10, 9, 8, 7, 6, 5, 4, 3, 2, 1, 0] [(70, .bool (x24)), (69, .bool (x24))] (by kernel_rfl) (qT (qT (qT (qT (qT (qB (qT (qL (qB (qT (qB (qT (qL (qB (qT (qT qZ)))))))))))))))) (by kernel_rfl) ?_
           refine wH_bool x24 (fun hb9 => ?_) (fun hb9 => ?_)
           ·have hm := condT hb9 hm
            subst hb9
            refine wH_take [11, 12, 13, 14, 15, 16, 17, 18] [18, 17, 16, 15, 14, 13, 12, 11, 10, 9, 8, 7, 6, 5, 4, 3, 2, 1, 0] [(78, undef), (77, undef), (76, undef), (75, undef), (74, undef), (73, undef), (72, undef), (71, undef)] (by kernel_rfl) (qT (qT (qT (qT (qT (qB (qT (qL (qB (qT (qB (qT (qL (qB (qT (qT qZ)))))))))))))))) (by kernel_rfl) ?_
            refine wH_done (by kernel_rfl) ?_
            refine eX_tail ?_
            refine wS_pure 3 [(81, .bool (true)), (80, .bool (true)), (79, undef)] (by kernel_rfl) ?_
            refine wS_end (by rfl) ?_
            refine eX_then ?_
            refine cW_prune [(0, .pointer (some ⟨b0, 0, none⟩)), (2, .pointer (some ⟨b1, 0, none⟩)), (3, .pointer (some ⟨b2, 0, none⟩)), (4, .slice A1 (l1).length cap1), (7, .bool (true)), (8, .int .i64 (x18)), (9, .int .i64 (x25)), (81, .bool (true))] (by kernel_rfl) (by kernel_rfl) (fun a1 => ?_)
            refine cW_cond_t (by kernel_rfl) ?_
            refine cW_region ?_
            refine wS_pure 1 [(82, .pointer (some ⟨b2, 1, none⟩))] (by kernel_rfl) ?_
            refine wS_load1 (d := 83) (T := 24) (ad := ⟨b2, 1, none⟩) (v := .slice A16 (l14).length cap16) (by kernel_rfl) vt24 ((F56).cell 1) ?_
            refine wS_pure 2 [(85, .int .i64 (x25)), (84, .int .i64 (x18))] (by kernel_rfl) ?_
            refine wS_bs (enc := encI) ([x18, x25] : List (Int)) [.int .i64 (x18), .int .i64 (x25)] (d := 86) (t := 25) (T := 2) (n := 2) (ps := [(0, .int .i64 (x18)), (1, .int .i64 (x25))]) (by kernel_rfl) el25 encI_ok (by rfl) (by omega) (by omega) (by kernel_rfl) (by rfl) ?_
            intro b6 w26 G18 F62 hc19
            have D53 : Dj [b1] [b6] := Dj.of (lt1 F55.lt) (low1 G18)
            have D54 : Dj [b2] [b6] := Dj.of (lt1 F56.lt) (low1 G18)
            have D55 : Dj fp1 [b6] := Dj.of F57.low (low1 G18)
            have D56 : Dj fp2 [b6] := Dj.of F58.low (low1 G18)
            have D57 : Dj (fp15 ++ fr7) [b6] := Dj.of F59.low (low1 G18)
            have D58 : Dj (fp16 ++ fr8) [b6] := Dj.of F60.low (low1 G18)
            replace F53 := F53.chg hc19 Dj.nil
            replace F61 := F61.chg hc19 notNil
            replace F55 := F55.chg hc19 notNil
            replace F56 := F56.chg hc19 notNil
            replace F57 := F57.chg hc19 Dj.nil
            replace F58 := F58.chg hc19 Dj.nil
            replace F59 := F59.chg hc19 Dj.nil
            replace F60 := F60.chg hc19 Dj.nil
            replace hB := hB.inS hc19 inNil
            replace G18 := Nat.le_trans hZ G18
            replace G18 := low1 G18
            replace hZ := Nat.le_trans hZ hc19.size
            refine wS_row1 (k := 1) (enc := encI) (l := ([x18, x25] : List (Int))) (d := 87) (t := 24) (T := 25) (B := (some ⟨b6, 0, none⟩)) (c := 2) (by kernel_rfl) el24 F62 ?_
            intro b7 w27 G19 F63 hc20
            have D59 : Dj [b1] ([b7] ++ [b6]) := Dj.app (Dj.of (lt1 F55.lt) (low1 G19)) D53
            have D60 : Dj [b2] ([b7] ++ [b6]) := Dj.app (Dj.of (lt1 F56.lt) (low1 G19)) D54
            have D61 : Dj fp1 ([b7] ++ [b6]) := Dj.app (Dj.of F57.low (low1 G19)) D55
            have D62 : Dj fp2 ([b7] ++ [b6]) := Dj.app (Dj.of F58.low (low1 G19)) D56
            have D63 : Dj (fp15 ++ fr7) ([b7] ++ [b6]) := Dj.app (Dj.of F59.low (low1 G19)) D57
            have D64 : Dj (fp16 ++ fr8) ([b7] ++ [b6]) := Dj.app (Dj.of F60.low (low1 G19)) D58
            replace F53 := F53.chg hc20 Dj.nil
            replace F61 := F61.chg hc20 notNil
            replace F55 := F55.chg hc20 notNil
            replace F56 := F56.chg hc20 notNil
            replace F57 := F57.chg hc20 Dj.nil
            replace F58 := F58.chg hc20 Dj.nil
            replace F59 := F59.chg hc20 Dj.nil
            replace F60 := F60.chg hc20 Dj.nil
            replace F62 := F62.chg hc20 Dj.nil
            replace hB := hB.inS hc20 inNil
            replace G19 := Nat.le_trans hZ G19
            replace G19 := lowApp (low1 G19) G18
            replace hZ := Nat.le_trans hZ hc20.size
            replace F62 := (F62.sl encI_ok)
            obtain ⟨_, hk3, hm⟩ := bindE hm
            replace hk3 := apE hk3
            refine wS_appendR (k := 1) (enc := encI) (ll := (l14 : List (List (Int)))) (ll2 := (([([x18, x25] : List (Int))] : List (List (Int))) : List (List (Int)))) (d := 88) (t := 24) (T := 25) (A := A16) (A2 := (some ⟨b7, 0, none⟩)) (cap := cap16) (cap2 := 1) (by kernel_rfl) el24 F59 F63 (by rfl) D63 hk3 ?_
            intro w28 fp20 A21 cap21 F64 hc21 hp3
            have G20 := lowApp (low_ap (low_inl G16) hZ hp3) (lowApp (low_inr G16) (low_inr G19))
            have D65 : Dj [b1] (fp20 ++ (fr7 ++ [b6])) := Dj.app (Dj.ap (Dj.inl D44) (lt1 F55.lt) hp3) (Dj.app (Dj.inr D44) (Dj.inr D59))
            have D66 : Dj [b2] (fp20 ++ (fr7 ++ [b6])) := Dj.app (Dj.ap (Dj.inl D45) (lt1 F56.lt) hp3) (Dj.app (Dj.inr D45) (Dj.inr D60))
            have D67 : Dj fp1 (fp20 ++ (fr7 ++ [b6])) := Dj.app (Dj.ap (Dj.inl D46) F57.low hp3) (Dj.app (Dj.inr D46) (Dj.inr D61))
            have D68 : Dj fp2 (fp20 ++ (fr7 ++ [b6])) := Dj.app (Dj.ap (Dj.inl D47) F58.low hp3) (Dj.app (Dj.inr D47) (Dj.inr D62))
            have D69 : Dj (fp16 ++ fr8) (fp20 ++ (fr7 ++ [b6])) := Dj.app (Dj.ap (Dj.inl D48) F60.low hp3) (Dj.app (Dj.inr D48) (Dj.inr D64))
            replace F53 := F53.chg hc21 (Dj.inl (Dj.of L0_0 G16))
            replace F61 := F61.chg hc21 (dj1 (Dj.inl (Dj.of L0 G16)))
            replace F55 := F55.chg hc21 (dj1 (Dj.inl D44))
            replace F56 := F56.chg hc21 (dj1 (Dj.inl D45))
            replace F57 := F57.chg hc21 (Dj.inl D46)
            replace F58 := F58.chg hc21 (Dj.inl D47)
            replace F60 := F60.chg hc21 (Dj.inl D48)
            replace hB := hB.inS hc21 (memS_inl (inLow G16))
            replace hZ := Nat.le_trans hZ hc21.size
            refine wS_pure 1 [(89, .pointer (some ⟨b2, 1, none⟩))] (by kernel_rfl) ?_
            refine wS_store (T := 24) (g := b2) (o := 1) (ad := ⟨b2, 1, none⟩) (v := .slice A21 (l14 ++ (([([x18, x25] : List (Int))] : List (List (Int))))).length cap21) (vs := [.slice A21 (l14 ++ (([([x18, x25] : List (Int))] : List (List (Int))))).length cap21]) (by kernel_rfl) (by rfl) sz24 (by rfl) (by rfl) F56 (by simp only [List.length_cons, List.length_nil]; omega) ?_
            intro w29 F65 hc22
            replace F53 := F53.chg hc22 (Dj.of L0_0 (low1 G2))
            replace F61 := F61.chg hc22 (dj1 (Dj.of L0 (low1 G2)))
            replace F55 := F55.chg hc22 (dj1 D1)
            replace F57 := F57.chg hc22 (D31).symm
            replace F58 := F58.chg hc22 (D34).symm
            replace F60 := F60.chg hc22 (D50).symm
            replace F64 := F64.chg hc22 (D66).symm
            replace hB := hB.inS hc22 (inLow (low1 G2))
            replace hZ := Nat.le_trans hZ hc22.size
            replace F65 : Cl w29 b2 27 [.int .i64 (x1), .slice A21 (l14 ++ (([([x18, x25] : List (Int))] : List (List (Int))))).length cap21, .slice A17 (l15).length cap17, .slice A3 (l3).length cap3] := F65
            clear F56
            refine wS_end (by rfl) ?_
            have hq : (some ((true, l14 ++ (([([x18, x25] : List (Int))] : List (List (Int)))), y7.2.1, y7.2.2)) : Option (Bool × (List (List (Int))) × Int × Int)) = some _ := hm
            replace hq := someE hq
            subst hq
            exact eX_J (fun hst => ⟨true, l14 ++ (([([x18, x25] : List (Int))] : List (List (Int)))), A21, cap21, fp20, (fr7 ++ [b6]), y7.2.1, y7.2.2, rfl, Fr.of hst (by kernel_rfl), F53, F61, F55, F65, F57, F58, F60, F64, G20, D65, D66, D67, D68, D69, hB, hZ⟩)
           ·have hm := condF hb9 hm
            subst hb9
            refine wH_take [11, 12] [12, 11, 10, 9, 8, 7, 6, 5, 4, 3, 2, 1, 0] [(72, .int .i64 (x18)), (71, .slice A1 (l1).length cap1)] (by kernel_rfl) (qT (qT (qT (qT (qT (qB (qT (qL (qB (qT (qB (qT (qL (qB (qT (qT qZ)))))))))))))))) (by kernel_rfl) ?_
            obtain ⟨x34, hx5, hm⟩ := bindE hm
            refine wH_idx (i := 13) (d := 73) (T := 25) (A := A1) (n := (l1).length) (cap := cap1) (kd := .i64) (m := x18) (by kernel_rfl) (qT (qT (qT (qT (qT (qB (qT (qL (qB (qT (qB (qT (qL (qB (qT (qT qZ)))))))))))))))) (by kernel_rfl) (by kernel_rfl) sl25 ((F57.sl encI_ok).is hx5) ?_
            refine wH_load1 (i := 14) (d := 74) (T := 2) (ad := (elA A1 1 (x18) 0)) (v := .int .i64 (x34)) (by kernel_rfl) (qT (qT (qT (qT (qT (qB (qT (qL (qB (qT (qB (qT (qL (qB (qT (qT qZ)))))))))))))))) (by kernel_rfl) (by kernel_rfl) vt2 (fun W hW => Sl.cell ((Z5.chg hW (Dj.of L0 G12).symm).sl encI_ok) hx5 0 (by rfl)) ?_
            refine wH_take [15, 16] [16, 15, 14, 13, 12, 11, 10, 9, 8, 7, 6, 5, 4, 3, 2, 1, 0] [(76, .int .i64 (x25)), (75, .slice A1 (l1).length cap1)] (by kernel_rfl) (qT (qT (qT (qT (qT (qB (qT (qL (qB (qT (qB (qT (qL (qB (qT (qT qZ)))))))))))))))) (by kernel_rfl) ?_
            obtain ⟨x35, hx6, hm⟩ := bindE hm
            refine wH_idx (i := 17) (d := 77) (T := 25) (A := A1) (n := (l1).length) (cap := cap1) (kd := .i64) (m := x25) (by kernel_rfl) (qT (qT (qT (qT (qT (qB (qT (qL (qB (qT (qB (qT (qL (qB (qT (qT qZ)))))))))))))))) (by kernel_rfl) (by kernel_rfl) sl25 ((F57.sl encI_ok).is hx6) ?_
            refine wH_load1 (i := 18) (d := 78) (T := 2) (ad := (elA A1 1 (x25) 0)) (v := .int .i64 (x35)) (by kernel_rfl) (qT (qT (qT (qT (qT (qB (qT (qL (qB (qT (qB (qT (qL (qB (qT (qT qZ)))))))))))))))) (by kernel_rfl) (by kernel_rfl) vt2 (fun W hW => Sl.cell ((Z5.chg hW (Dj.of L0 G12).symm).sl encI_ok) hx6 0 (by rfl)) ?_
            refine wH_done (by kernel_rfl) ?_
            refine eX_tail ?_
            refine wS_pure 3 [(81, .bool (x34 != x35)), (80, .bool (x34 != x35)), (79, .bool (x34 != x35))] (by kernel_rfl) ?_
            refine wS_end (by rfl) ?_
            refine eX_then ?_
            refine cW_prune [(0, .pointer (some ⟨b0, 0, none⟩)), (2, .pointer (some ⟨b1, 0, none⟩)), (3, .pointer (some ⟨b2, 0, none⟩)), (4, .slice A1 (l1).length cap1), (7, .bool (false)), (8, .int .i64 (x18)), (9, .int .i64 (x25)), (81, .bool (x34 != x35))] (by kernel_rfl) (by kernel_rfl) (fun a2 => ?_)
            refine cW_cond (t := x34 != x35) (by kernel_rfl) (fun hb10 => ?_) (fun hb10 => ?_)
            ·have hm := condT hb10 hm
             refine cW_region ?_
             refine wS_pure 1 [(82, .pointer (some ⟨b2, 1, none⟩))] (by kernel_rfl) ?_
             refine wS_load1 (d := 83) (T := 24) (ad := ⟨b2, 1, none⟩) (v := .slice A16 (l14).length cap16) (by kernel_rfl) vt24 ((F56).cell 1) ?_
             refine wS_pure 2 [(85, .int .i64 (x25)), (84, .int .i64 (x18))] (by kernel_rfl) ?_
             refine wS_bs (enc := encI) ([x18, x25] : List (Int)) [.int .i64 (x18), .int .i64 (x25)] (d := 86) (t := 25) (T := 2) (n := 2) (ps := [(0, .int .i64 (x18)), (1, .int .i64 (x25))]) (by kernel_rfl) el25 encI_ok (by rfl) (by omega) (by omega) (by kernel_rfl) (by rfl) ?_
             intro b8 w30 G21 F66 hc23
             have D70 : Dj [b1] [b8] := Dj.of (lt1 F55.lt) (low1 G21)
             have D71 : Dj [b2] [b8] := Dj.of (lt1 F56.lt) (low1 G21)
             have D72 : Dj fp1 [b8] := Dj.of F57.low (low1 G21)
             have D73 : Dj fp2 [b8] := Dj.of F58.low (low1 G21)
             have D74 : Dj (fp15 ++ fr7) [b8] := Dj.of F59.low (low1 G21)
             have D75 : Dj (fp16 ++ fr8) [b8] := Dj.of F60.low (low1 G21)
             replace F53 := F53.chg hc23 Dj.nil
             replace F61 := F61.chg hc23 notNil
             replace F55 := F55.chg hc23 notNil
             replace F56 := F56.chg hc23 notNil
             replace F57 := F57.chg hc23 Dj.nil
             replace F58 := F58.chg hc23 Dj.nil
             replace F59 := F59.chg hc23 Dj.nil
             replace F60 := F60.chg hc23 Dj.nil
             replace hB := hB.inS hc23 inNil
             replace G21 := Nat.le_trans hZ G21
             replace G21 := low1 G21
             replace hZ := Nat.le_trans hZ hc23.size
             refine wS_row1 (k := 1) (enc := encI) (l := ([x18, x25] : List (Int))) (d := 87) (t := 24) (T := 25) (B := (some ⟨b8, 0, none⟩)) (c := 2) (by kernel_rfl) el24 F66 ?_
             intro b9 w31 G22 F67 hc24
             have D76 : Dj [b1] ([b9] ++ [b8]) := Dj.app (Dj.of (lt1 F55.lt) (low1 G22)) D70
             have D77 : Dj [b2] ([b9] ++ [b8]) := Dj.app (Dj.of (lt1 F56.lt) (low1 G22)) D71
             have D78 : Dj fp1 ([b9] ++ [b8]) := Dj.app (Dj.of F57.low (low1 G22)) D72
             have D79 : Dj fp2 ([b9] ++ [b8]) := Dj.app (Dj.of F58.low (low1 G22)) D73
             have D80 : Dj (fp15 ++ fr7) ([b9] ++ [b8]) := Dj.app (Dj.of F59.low (low1 G22)) D74
             have D81 : Dj (fp16 ++ fr8) ([b9] ++ [b8]) := Dj.app (Dj.of F60.low (low1 G22)) D75
             replace F53 := F53.chg hc24 Dj.nil
             replace F61 := F61.chg hc24 notNil
             replace F55 := F55.chg hc24 notNil
             replace F56 := F56.chg hc24 notNil
             replace F57 := F57.chg hc24 Dj.nil
             replace F58 := F58.chg hc24 Dj.nil
             replace F59 := F59.chg hc24 Dj.nil
             replace F60 := F60.chg hc24 Dj.nil
             replace F66 := F66.chg hc24 Dj.nil
             replace hB := hB.inS hc24 inNil
             replace G22 := Nat.le_trans hZ G22
             replace G22 := lowApp (low1 G22) G21
             replace hZ := Nat.le_trans hZ hc24.size
             replace F66 := (F66.sl encI_ok)
             obtain ⟨_, hk4, hm⟩ := bindE hm
             replace hk4 := apE hk4
             refine wS_appendR (k := 1) (enc := encI) (ll := (l14 : List (List (Int)))) (ll2 := (([([x18, x25] : List (Int))] : List (List (Int))) : List (List (Int)))) (d := 88) (t := 24) (T := 25) (A := A16) (A2 := (some ⟨b9, 0, none⟩)) (cap := cap16) (cap2 := 1) (by kernel_rfl) el24 F59 F67 (by rfl) D80 hk4 ?_
             intro w32 fp21 A22 cap22 F68 hc25 hp4
             have G23 := lowApp (low_ap (low_inl G16) hZ hp4) (lowApp (low_inr G16) (low_inr G22))
             have D82 : Dj [b1] (fp21 ++ (fr7 ++ [b8])) := Dj.app (Dj.ap (Dj.inl D44) (lt1 F55.lt) hp4) (Dj.app (Dj.inr D44) (Dj.inr D76))
             have D83 : Dj [b2] (fp21 ++ (fr7 ++ [b8])) := Dj.app (Dj.ap (Dj.inl D45) (lt1 F56.lt) hp4) (Dj.app (Dj.inr D45) (Dj.inr D77))
             have D84 : Dj fp1 (fp21 ++ (fr7 ++ [b8])) := Dj.app (Dj.ap (Dj.inl D46) F57.low hp4) (Dj.app (Dj.inr D46) (Dj.inr D78))
             have D85 : Dj fp2 (fp21 ++ (fr7 ++ [b8])) := Dj.app (Dj.ap (Dj.inl D47) F58.low hp4) (Dj.app (Dj.inr D47) (Dj.inr D79))
             have D86 : Dj (fp16 ++ fr8) (fp21 ++ (fr7 ++ [b8])) := Dj.app (Dj.ap (Dj.inl D48) F60.low hp4) (Dj.app (Dj.inr D48) (Dj.inr D81))
             replace F53 := F53.chg hc25 (Dj.inl (Dj.of L0_0 G16))
             replace F61 := F61.chg hc25 (dj1 (Dj.inl (Dj.of L0 G16)))
             replace F55 := F55.chg hc25 (dj1 (Dj.inl D44))
             replace F56 := F56.chg hc25 (dj1 (Dj.inl D45))
             replace F57 := F57.chg hc25 (Dj.inl D46)
             replace F58 := F58.chg hc25 (Dj.inl D47)
             replace F60 := F60.chg hc25 (Dj.inl D48)
             replace hB := hB.inS hc25 (memS_inl (inLow G16))
             replace hZ := Nat.le_trans hZ hc25.size
             refine wS_pure 1 [(89, .pointer (some ⟨b2, 1, none⟩))] (by kernel_rfl) ?_
             refine wS_store (T := 24) (g := b2) (o := 1) (ad := ⟨b2, 1, none⟩) (v := .slice A22 (l14 ++ (([([x18, x25] : List (Int))] : List (List (Int))))).length cap22) (vs := [.slice A22 (l14 ++ (([([x18, x25] : List (Int))] : List (List (Int))))).length cap22]) (by kernel_rfl) (by rfl) sz24 (by rfl) (by rfl) F56 (by simp only [List.length_cons, List.length_nil]; omega) ?_
             intro w33 F69 hc26
             replace F53 := F53.chg hc26 (Dj.of L0_0 (low1 G2))
             replace F61 := F61.chg hc26 (dj1 (Dj.of L0 (low1 G2)))
             replace F55 := F55.chg hc26 (dj1 D1)
             replace F57 := F57.chg hc26 (D31).symm
             replace F58 := F58.chg hc26 (D34).symm
             replace F60 := F60.chg hc26 (D50).symm
             replace F68 := F68.chg hc26 (D83).symm
             replace hB := hB.inS hc26 (inLow (low1 G2))
             replace hZ := Nat.le_trans hZ hc26.size
             replace F69 : Cl w33 b2 27 [.int .i64 (x1), .slice A22 (l14 ++ (([([x18, x25] : List (Int))] : List (List (Int))))).length cap22, .slice A17 (l15).length cap17, .slice A3 (l3).length cap3] := F69
             clear F56
             refine wS_end (by rfl) ?_
             have hq : (some ((false, l14 ++ (([([x18, x25] : List (Int))] : List (List (Int)))), y7.2.1, y7.2.2)) : Option (Bool × (List (List (Int))) × Int × Int)) = some _ := hm
             replace hq := someE hq
             subst hq
             exact eX_J (fun hst => ⟨false, l14 ++ (([([x18, x25] : List (Int))] : List (List (Int)))), A22, cap22, fp21, (fr7 ++ [b8]), y7.2.1, y7.2.2, rfl, Fr.of hst (by kernel_rfl), F53, F61, F55, F69, F57, F58, F60, F68, G23, D82, D83, D84, D85, D86, hB, hZ⟩)
            ·have hm := condF hb10 hm
             refine cW_skip ?_
             have hq : (some ((false, l14, y7.2.1, y7.2.2)) : Option (Bool × (List (List (Int))) × Int × Int)) = some _ := hm
             replace hq := someE hq
             subst hq
             exact eX_J (fun hst => ⟨false, l14, A16, cap16, fp15, fr7, y7.2.1, y7.2.2, rfl, Fr.of hst (by kernel_rfl), F53, F61, F55, F56, F57, F58, F60, F59, G16, D44, D45, D46, D47, D48, hB, hZ⟩)
          ·have hm := condF hb8 hm
           rewrite [hb8]
           refine wH_take [9, 10, 11, 12, 13, 14, 15, 16, 17, 18] [18, 17, 16, 15, 14, 13, 12, 11, 10, 9, 8, 7, 6, 5, 4, 3, 2, 1, 0] [(78, undef), (77, undef), (76, undef), (75, undef), (74, undef), (73, undef), (72, undef), (71, undef), (70, undef), (69, undef)] (by kernel_rfl) (qT (qT (qT (qT (qT (qB (qT (qL (qB (qT (qB (qT (qL (qB (qT (qT qZ)))))))))))))))) (by kernel_rfl) ?_
           refine wH_done (by kernel_rfl) ?_
           refine eX_tail ?_
           refine wS_pure 3 [(81, .bool (false)), (80, undef), (79, undef)] (by kernel_rfl) ?_
           refine wS_end (by rfl) ?_
           refine eX_then ?_
           refine cW_prune [(0, .pointer (some ⟨b0, 0, none⟩)), (2, .pointer (some ⟨b1, 0, none⟩)), (3, .pointer (some ⟨b2, 0, none⟩)), (4, .slice A1 (l1).length cap1), (7, .bool (x24)), (8, .int .i64 (x18)), (9, .int .i64 (x25)), (81, .bool (false))] (by kernel_rfl) (by kernel_rfl) (fun a3 => ?_)
           refine cW_cond_f (by kernel_rfl) ?_
           refine cW_skip ?_
           have hq : (some ((x24, l14, y7.2.1, y7.2.2)) : Option (Bool × (List (List (Int))) × Int × Int)) = some _ := hm
           replace hq := someE hq
           subst hq
           exact eX_J (fun hst => ⟨x24, l14, A16, cap16, fp15, fr7, y7.2.1, y7.2.2, rfl, Fr.of hst (by kernel_rfl), F53, F61, F55, F56, F57, F58, F60, F59, G16, D44, D45, D46, D47, D48, hB, hZ⟩)
         ·have hm := condF hb7 hm
          rewrite [hb7]
          refine wH_take [3, 4, 5, 6, 7, 8, 9, 10, 11, 12, 13, 14, 15, 16, 17, 18] [18, 17, 16, 15, 14, 13, 12, 11, 10, 9, 8, 7, 6, 5, 4, 3, 2, 1, 0] [(78, undef), (77, undef), (76, undef), (75, undef), (74, undef), (73, undef), (72, undef), (71, undef), (70, undef), (69, undef), (68, .bool (false)), (67, .bool (false)), (66, undef), (65, undef), (64, undef), (63, undef)] (by kernel_rfl) (qT (qT (qT (qT (qT (qB (qT (qL (qB (qT (qB (qT (qL (qB (qT (qT qZ)))))))))))))))) (by kernel_rfl) ?_
          refine wH_done (by kernel_rfl) ?_
          refine eX_tail ?_
          refine wS_pure 3 [(81, .bool (false)), (80, undef), (79, undef)] (by kernel_rfl) ?_
          refine wS_end (by rfl) ?_
          refine eX_then ?_
          refine cW_prune [(0, .pointer (some ⟨b0, 0, none⟩)), (2, .pointer (some ⟨b1, 0, none⟩)), (3, .pointer (some ⟨b2, 0, none⟩)), (4, .slice A1 (l1).length cap1), (7, .bool (x24)), (8, .int .i64 (x18)), (9, .int .i64 (x25)), (81, .bool (false))] (by kernel_rfl) (by kernel_rfl) (fun a4 => ?_)
          refine cW_cond_f (by kernel_rfl) ?_
          refine cW_skip ?_
          have hq : (some ((x24, l14, y7.2.1, y7.2.2)) : Option (Bool × (List (List (Int))) × Int × Int)) = some _ := hm
          replace hq := someE hq
          subst hq
          exact eX_J (fun hst => ⟨x24, l14, A16, cap16, fp15, fr7, y7.2.1, y7.2.2, rfl, Fr.of hst (by kernel_rfl), F53, F61, F55, F56, F57, F58, F60, F59, G16, D44, D45, D46, D47, D48, hB, hZ⟩)
        ·rintro a' w34 ⟨x31, l18, A20, cap20, fp19, fr11, x32, x33, hJ, hF8, F70, F71, F72, F73, F74, F75, F76, F77, G24, D87, D88, D89, D90, D91, hB, hZ⟩
         subst hJ
         refine Fr.goX hF8 (by kernel_rfl) ?_
         refine eX_then ?_
         refine cW_seq ?_
         refine cW_region ?_
         refine wS_pure 1 [(90, .pointer (some ⟨b0, 0, none⟩))] (by kernel_rfl) ?_
         obtain ⟨y8, hy8, hm⟩ := bindE hm
         refine wS_calls (d := 91) (f := 90) (vs := [.pointer (some ⟨b0, 0, none⟩), .int .i64 (4)]) (by kernel_rfl) ent90 (c_spec_l00Src_one_bspecl00Src hy8 F70 F71 J0__0_0) ?_
         rintro _ w35 ⟨rfl, F78, hc27⟩
         replace F70 := F70.chg hc27 (Dj.app (J0__0_0).symm Dj.nil)
         replace F72 := F72.chg hc27 (dj1 (Dj.app (Dj.of L0 (low1 G1)).symm Dj.nil))
         replace F73 := F73.chg hc27 (dj1 (Dj.app (Dj.of L0 (low1 G2)).symm Dj.nil))
         replace F74 := F74.chg hc27 (Dj.app (Dj.of L0 G12).symm Dj.nil)
         replace F75 := F75.chg hc27 (Dj.app (Dj.of L0 G13).symm Dj.nil)
         replace F76 := F76.chg hc27 (Dj.app (Dj.of L0 G17).symm Dj.nil)
         replace F77 := F77.chg hc27 (Dj.app (Dj.of L0 G24).symm Dj.nil)
         replace hB := hB.inS hc27 (inApp (inMem (fun x hx => (List.mem_append_left _ hx))) inNil)
         replace hZ := Nat.le_trans hZ hc27.size
         clear F71
         refine ⟨.bool (y8.1), rfl, ?_⟩
         refine wS_pure 1 [(92, .bool (y8.1))] (by kernel_rfl) ?_
         refine wS_bool y8.1 (fun hb11 => ?_) (fun hb11 => ?_)
         ·have hm := condT hb11 hm
          rewrite [hb11]
          refine wS_pure 1 [(93, .pointer (some ⟨b2, 2, none⟩))] (by kernel_rfl) ?_
          refine wS_load1 (d := 94) (T := 24) (ad := ⟨b2, 2, none⟩) (v := .slice A17 (l15).length cap17) (by kernel_rfl) vt24 ((F73).cell 2) ?_
          refine wS_pure 3 [(97, .bool (decide ((((l15).length : Int)) < 12))), (96, .bool (decide ((((l15).length : Int)) < 12))), (95, .int .i64 (((l15).length : Int)))] (by kernel_rfl) ?_
          refine wS_end (by rfl) ?_
          refine eX_then ?_
          refine cW_cond (t := decide ((((l15).length : Int)) < 12)) (by kernel_rfl) (fun hb12 => ?_) (fun hb12 => ?_)
          ·have hm := condT hb12 hm
           refine cW_drawnTail [b0] 8 (by kernel_rfl) (by kernel_rfl) (fun w36 hc28 => ?_)
           replace F70 := F70.chg hc28 Dj.nil
           replace F78 := F78.chg hc28 notNil
           replace F72 := F72.chg hc28 notNil
           replace F73 := F73.chg hc28 notNil
           replace F74 := F74.chg hc28 Dj.nil
           replace F75 := F75.chg hc28 Dj.nil
           replace F76 := F76.chg hc28 Dj.nil
           replace F77 := F77.chg hc28 Dj.nil
           replace hB := hB.inS hc28 inNil
           replace hZ := Nat.le_trans hZ hc28.size
           have hS := Chg.refl [b0] w36
           have Z9 := F70
           have Z10 := F78
           have Z11 := F72
           have Z12 := F73
           have Z13 := F74
           have Z14 := F75
           have Z15 := F76
           have Z16 := F77
           refine wH_take [0] [0] [(98, .pointer (some ⟨b2, 2, none⟩))] (by kernel_rfl) (qT (qT (qB (qT (qL (qB (qT (qB (qT (qL (qB (qT (qT qZ))))))))))))) (by kernel_rfl) ?_
           refine wH_load1 (i := 1) (d := 99) (T := 24) (ad := ⟨b2, 2, none⟩) (v := .slice A17 (l15).length cap17) (by kernel_rfl) (qT (qT (qB (qT (qL (qB (qT (qB (qT (qL (qB (qT (qT qZ))))))))))))) (by kernel_rfl) (by kernel_rfl) vt24 (fun W hW => (Z12.chg hW (dj1 (Dj.of L0 (low1 G2)).symm)).cell 2) ?_
           refine wH_take [2, 3, 4] [4, 3, 2, 1, 0] [(102, .pointer (some ⟨b0, 0, none⟩)), (101, .int .i64 (x25)), (100, .int .i64 (x18))] (by kernel_rfl) (qT (qT (qB (qT (qL (qB (qT (qB (qT (qL (qB (qT (qT qZ))))))))))))) (by kernel_rfl) ?_
           refine wH_all [5] (by rfl) (by kernel_rfl) (by simp) ⟨⟨by kernel_rfl, ?_⟩, trivial⟩
           obtain ⟨y9, hy9, hm⟩ := bindE hm
           refine wS_calls (d := 103) (f := 67) (vs := [.pointer (some ⟨b0, 0, none⟩), .int .i64 (6)]) (by kernel_rfl) ent67 (c_spec_l00Src_pick_bspecl00Src hy9 F70 F78 J0__0_0) ?_
           rintro _ w37 ⟨rfl, F79, hc29⟩
           replace F70 := F70.chg hc29 (Dj.app (J0__0_0).symm Dj.nil)
           replace F72 := F72.chg hc29 (dj1 (Dj.app (Dj.of L0 (low1 G1)).symm Dj.nil))
           replace F73 := F73.chg hc29 (dj1 (Dj.app (Dj.of L0 (low1 G2)).symm Dj.nil))
           replace F74 := F74.chg hc29 (Dj.app (Dj.of L0 G12).symm Dj.nil)
           replace F75 := F75.chg hc29 (Dj.app (Dj.of L0 G13).symm Dj.nil)
           replace F76 := F76.chg hc29 (Dj.app (Dj.of L0 G17).symm Dj.nil)
           replace F77 := F77.chg hc29 (Dj.app (Dj.of L0 G24).symm Dj.nil)
           replace hB := hB.inS hc29 (inApp (inMem (fun x hx => (List.mem_append_left _ hx))) inNil)
           have hSz := hS
           replace hS := hS.trans (hc29.more (fun x hx => by simpa using hx))
           replace hZ := Nat.le_trans hZ hc29.size
           clear F78
           refine ⟨.int .i64 (y9.1), rfl, ?_⟩
           refine wS_end (by kernel_rfl) ?_
           refine eX_KH hS ?_
           refine wH_all [6] (by rfl) (by kernel_rfl) (by simp) ⟨⟨by kernel_rfl, ?_⟩, trivial⟩
           refine wS_bs (enc := encI) ([x18, x25, y9.1] : List (Int)) [.int .i64 (x18), .int .i64 (x25), .int .i64 (y9.1)] (d := 104) (t := 25) (T := 2) (n := 3) (ps := [(0, .int .i64 (x18)), (1, .int .i64 (x25)), (2, .int .i64 (y9.1))]) (by kernel_rfl) el25 encI_ok (by rfl) (by omega) (by omega) (by kernel_rfl) (by rfl) ?_
           intro b10 w38 G25 F80 hc30
           have D92 : Dj [b1] [b10] := Dj.of (lt1 F72.lt) (low1 G25)
           have D93 : Dj [b2] [b10] := Dj.of (lt1 F73.lt) (low1 G25)
           have D94 : Dj fp1 [b10] := Dj.of F74.low (low1 G25)
           have D95 : Dj fp2 [b10] := Dj.of F75.low (low1 G25)
           have D96 : Dj (fp16 ++ fr8) [b10] := Dj.of F76.low (low1 G25)
           have D97 : Dj (fp19 ++ fr11) [b10] := Dj.of F77.low (low1 G25)
           replace F70 := F70.chg hc30 Dj.nil
           replace F79 := F79.chg hc30 notNil
           replace F72 := F72.chg hc30 notNil
           replace F73 := F73.chg hc30 notNil
           replace F74 := F74.chg hc30 Dj.nil
           replace F75 := F75.chg hc30 Dj.nil
           replace F76 := F76.chg hc30 Dj.nil
           replace F77 := F77.chg hc30 Dj.nil
           replace hB := hB.inS hc30 inNil
           have hSz := hS
           replace hS := hS.inS hc30 inNil
           have Gz1 := low1 (Nat.le_trans hSz.size G25)
           replace G25 := Nat.le_trans hZ G25
           replace G25 := low1 G25
           replace hZ := Nat.le_trans hZ hc30.size
           refine wS_end (by kernel_rfl) ?_
           refine eX_KH hS ?_
           refine wH_all [7] (by rfl) (by kernel_rfl) (by simp) ⟨⟨by kernel_rfl, ?_⟩, trivial⟩
           refine wS_row1 (k := 1) (enc := encI) (l := ([x18, x25, y9.1] : List (Int))) (d := 105) (t := 24) (T := 25) (B := (some ⟨b10, 0, none⟩)) (c := 3) (by kernel_rfl) el24 F80 ?_
           intro b11 w39 G26 F81 hc31
           have D98 : Dj [b1] ([b11] ++ [b10]) := Dj.app (Dj.of (lt1 F72.lt) (low1 G26)) D92
           have D99 : Dj [b2] ([b11] ++ [b10]) := Dj.app (Dj.of (lt1 F73.lt) (low1 G26)) D93
           have D100 : Dj fp1 ([b11] ++ [b10]) := Dj.app (Dj.of F74.low (low1 G26)) D94
           have D101 : Dj fp2 ([b11] ++ [b10]) := Dj.app (Dj.of F75.low (low1 G26)) D95
           have D102 : Dj (fp16 ++ fr8) ([b11] ++ [b10]) := Dj.app (Dj.of F76.low (low1 G26)) D96
           have D103 : Dj (fp19 ++ fr11) ([b11] ++ [b10]) := Dj.app (Dj.of F77.low (low1 G26)) D97
           replace F70 := F70.chg hc31 Dj.nil
           replace F79 := F79.chg hc31 notNil
           replace F72 := F72.chg hc31 notNil
           replace F73 := F73.chg hc31 notNil
           replace F74 := F74.chg hc31 Dj.nil
           replace F75 := F75.chg hc31 Dj.nil
           replace F76 := F76.chg hc31 Dj.nil
           replace F77 := F77.chg hc31 Dj.nil
           replace F80 := F80.chg hc31 Dj.nil
           replace hB := hB.inS hc31 inNil
           have hSz := hS
           replace hS := hS.inS hc31 inNil
           replace G26 := Nat.le_trans hZ G26
           replace G26 := lowApp (low1 G26) G25
           replace hZ := Nat.le_trans hZ hc31.size
           replace F80 := (F80.sl encI_ok)
           refine wS_end (by kernel_rfl) ?_
           refine eX_KH hS ?_
           refine wH_done (by kernel_rfl) ?_
           refine eX_tail ?_
           obtain ⟨_, hk5, hm⟩ := bindE hm
           replace hk5 := apE hk5
           refine wS_appendR (k := 1) (enc := encI) (ll := (l15 : List (List (Int)))) (ll2 := (([([x18, x25, y9.1] : List (Int))] : List (List (Int))) : List (List (Int)))) (d := 106) (t := 24) (T := 25) (A := A17) (A2 := (some ⟨b11, 0, none⟩)) (cap := cap17) (cap2 := 1) (by kernel_rfl) el24 F76 F81 (by rfl) D102 hk5 ?_
           intro w40 fp22 A23 cap23 F82 hc32 hp5
           have G27 := lowApp (low_ap (low_inl G17) hZ hp5) (lowApp (low_inr G17) (low_inr G26))
           have D104 : Dj [b1] (fp22 ++ (fr8 ++ [b10])) := Dj.app (Dj.ap (Dj.inl D49) (lt1 F72.lt) hp5) (Dj.app (Dj.inr D49) (Dj.inr D98))
           have D105 : Dj [b2] (fp22 ++ (fr8 ++ [b10])) := Dj.app (Dj.ap (Dj.inl D50) (lt1 F73.lt) hp5) (Dj.app (Dj.inr D50) (Dj.inr D99))
           have D106 : Dj fp1 (fp22 ++ (fr8 ++ [b10])) := Dj.app (Dj.ap (Dj.inl D51) F74.low hp5) (Dj.app (Dj.inr D51) (Dj.inr D100))
           have D107 : Dj fp2 (fp22 ++ (fr8 ++ [b10])) := Dj.app (Dj.ap (Dj.inl D52) F75.low hp5) (Dj.app (Dj.inr D52) (Dj.inr D101))
           have D108 : Dj (fp19 ++ fr11) (fp22 ++ (fr8 ++ [b10])) := Dj.app (Dj.ap (Dj.inl (D91).symm) F77.low hp5) (Dj.app (Dj.inr (D91).symm) (Dj.inr D103))
           replace F70 := F70.chg hc32 (Dj.inl (Dj.of L0_0 G17))
           replace F79 := F79.chg hc32 (dj1 (Dj.inl (Dj.of L0 G17)))
           replace F72 := F72.chg hc32 (dj1 (Dj.inl D49))
           replace F73 := F73.chg hc32 (dj1 (Dj.inl D50))
           replace F74 := F74.chg hc32 (Dj.inl D51)
           replace F75 := F75.chg hc32 (Dj.inl D52)
           replace F77 := F77.chg hc32 (Dj.inl (D91).symm)
           replace hB := hB.inS hc32 (memS_inl (inLow G17))
           replace hZ := Nat.le_trans hZ hc32.size
           refine wS_pure 1 [(107, .pointer (some ⟨b2, 2, none⟩))] (by kernel_rfl) ?_
           refine wS_store (T := 24) (g := b2) (o := 2) (ad := ⟨b2, 2, none⟩) (v := .slice A23 (l15 ++ (([([x18, x25, y9.1] : List (Int))] : List (List (Int))))).length cap23) (vs := [.slice A23 (l15 ++ (([([x18, x25, y9.1] : List (Int))] : List (List (Int))))).length cap23]) (by kernel_rfl) (by rfl) sz24 (by rfl) (by rfl) F73 (by simp only [List.length_cons, List.length_nil]; omega) ?_
           intro w41 F83 hc33
           replace F70 := F70.chg hc33 (Dj.of L0_0 (low1 G2))
           replace F79 := F79.chg hc33 (dj1 (Dj.of L0 (low1 G2)))
           replace F72 := F72.chg hc33 (dj1 D1)
           replace F74 := F74.chg hc33 (D31).symm
           replace F75 := F75.chg hc33 (D34).symm
           replace F77 := F77.chg hc33 (D88).symm
           replace F82 := F82.chg hc33 (D105).symm
           replace hB := hB.inS hc33 (inLow (low1 G2))
           replace hZ := Nat.le_trans hZ hc33.size
           replace F83 : Cl w41 b2 27 [.int .i64 (x1), .slice A20 (l18).length cap20, .slice A23 (l15 ++ (([([x18, x25, y9.1] : List (Int))] : List (List (Int))))).length cap23, .slice A3 (l3).length cap3] := F83
           clear F73
           refine wS_end (by rfl) ?_
           have hq : (some ((x31, l18, l15 ++ (([([x18, x25, y9.1] : List (Int))] : List (List (Int)))), y9.2.1, y9.2.2)) : Option (Bool × (List (List (Int))) × (List (List (Int))) × Int × Int)) = some _ := hm
           replace hq := someE hq
           subst hq
           exact eX_J (fun hst => ⟨x31, l18, A20, cap20, fp19, fr11, l15 ++ (([([x18, x25, y9.1] : List (Int))] : List (List (Int)))), A23, cap23, fp22, (fr8 ++ [b10]), y9.2.1, y9.2.2, rfl, Fr.of hst (by kernel_rfl), F70, F79, F72, F83, F74, F75, F77, F82, G24, G27, D87, D88, D89, D90, (D108).symm, D104, D105, D106, D107, hB, hZ⟩)
          ·have hm := condF hb12 hm
           refine cW_skip ?_
           have hq : (some ((x31, l18, l15, y8.2.1, y8.2.2)) : Option (Bool × (List (List (Int))) × (List (List (Int))) × Int × Int)) = some _ := hm
           replace hq := someE hq
           subst hq
           exact eX_J (fun hst => ⟨x31, l18, A20, cap20, fp19, fr11, l15, A17, cap17, fp16, fr8, y8.2.1, y8.2.2, rfl, Fr.of hst (by kernel_rfl), F70, F78, F72, F73, F74, F75, F77, F76, G24, G17, D87, D88, D89, D90, D91, D49, D50, D51, D52, hB, hZ⟩)
         ·have hm := condF hb11 hm
          rewrite [hb11]
          refine wS_pure 5 [(97, .bool (false)), (96, undef), (95, undef), (94, undef), (93, undef)] (by kernel_rfl) ?_
          refine wS_end (by rfl) ?_
          refine eX_then ?_
          refine cW_cond_f (by kernel_rfl) ?_
          refine cW_skip ?_
          have hq : (some ((x31, l18, l15, y8.2.1, y8.2.2)) : Option (Bool × (List (List (Int))) × (List (List (Int))) × Int × Int)) = some _ := hm
          replace hq := someE hq
          subst hq
          exact eX_J (fun hst => ⟨x31, l18, A20, cap20, fp19, fr11, l15, A17, cap17, fp16, fr8, y8.2.1, y8.2.2, rfl, Fr.of hst (by kernel_rfl), F70, F78, F72, F73, F74, F75, F77, F76, G24, G17, D87, D88, D89, D90, D91, D49, D50, D51, D52, hB, hZ⟩)
       ·rintro a' w42 ⟨x28, l16, A18, cap18, fp17, fr9, l17, A19, cap19, fp18, fr10, x29, x30, hJ, hF9, F84, F85, F86, F87, F88, F89, F90, F91, G28, G29, D109, D110, D111, D112, D113, D114, D115, D116, D117, hB, hZ⟩
        subst hJ
        refine Fr.goX hF9 (by kernel_rfl) ?_
        refine eX_block ?_
        refine eX_then ?_
        refine cW_region ?_
        refine wS_pure 3 [(9, .int .i64 (wr (x25 + 1))), (59, .int .i64 (wr (x25 + 1))), (58, .int .i64 (x25))] (by kernel_rfl) ?_
        refine wS_end (by rfl) ?_
        have hq : (some (Ctl.next ((x28, wr (x25 + 1), l16, l17, x29, x30))) : Option (Ctl (Bool × Int × (List (List (Int))) × (List (List (Int))) × Int × Int) (Bool × (List (List (Int))) × (List (List (Int))) × Int × Int))) = some _ := hm
        replace hq := someE hq
        subst hq
        exact eX_next hx4 (fun hst => ⟨x28, wr (x25 + 1), l16, A18, cap18, fp17, fr9, l17, A19, cap19, fp18, fr10, x29, x30, rfl, Fr.of hst (by kernel_rfl), F84, F85, F86, F87, F88, F89, F90, F91, G28, G29, D109, D110, D111, D112, D113, D114, D115, D116, D117, hB, hZ⟩)
      ·have hm := condF hb6 hm
       refine cW_exit ?_
       refine eX_then_exit ?_
       have hq : (some (Ctl.out ((x24, l14, l15, x26, x27))) : Option (Ctl (Bool × Int × (List (List (Int))) × (List (List (Int))) × Int × Int) (Bool × (List (List (Int))) × (List (List (Int))) × Int × Int))) = some _ := hm
       replace hq := someE hq
       subst hq
       refine eX_outX hx4 (fun hr5 => ?_)
       replace hr5 := hr5.symm
       subst hr5
       refine eX_block_hit ?_
       exact eX_J (fun hst => ⟨x24, l14, A16, cap16, fp15, fr7, l15, A17, cap17, fp16, fr8, x26, x27, rfl, Fr.of hst (by kernel_rfl), F53, F54, F55, F56, F57, F58, F59, F60, G16, G17, D44, D45, D46, D47, D48, D49, D50, D51, D52, hB, hZ⟩)
     ·rintro a' w43 ⟨x21, l12, A14, cap14, fp13, fr5, l13, A15, cap15, fp14, fr6, x22, x23, hJ, hF10, F92, F93, F94, F95, F96, F97, F98, F99, G30, G31, D118, D119, D120, D121, D122, D123, D124, D125, D126, hB, hZ⟩
      subst hJ
      refine Fr.goX hF10 (by kernel_rfl) ?_
      refine eX_block ?_
      refine eX_then ?_
      refine cW_region ?_
      refine wS_pure 3 [(8, .int .i64 (wr (x18 + 1))), (51, .int .i64 (wr (x18 + 1))), (50, .int .i64 (x18))] (by kernel_rfl) ?_
      refine wS_end (by rfl) ?_
      have hq : (some (Ctl.next ((x21, wr (x18 + 1), l12, l13, x22, x23))) : Option (Ctl (Bool × Int × (List (List (Int))) × (List (List (Int))) × Int × Int) ((List (List (Int))) × (List (List (Int))) × Int × Int))) = some _ := hm
      replace hq := someE hq
      subst hq
      exact eX_next hx3 (fun hst => ⟨x21, wr (x18 + 1), l12, A14, cap14, fp13, fr5, l13, A15, cap15, fp14, fr6, x22, x23, rfl, Fr.of hst (by kernel_rfl), F92, F93, F94, F95, F96, F97, F98, F99, G30, G31, D118, D119, D120, D121, D122, D123, D124, D125, D126, hB, hZ⟩)
    ·have hm := condF hb5 hm
     refine cW_exit ?_
     refine eX_then_exit ?_
     have hq : (some (Ctl.out ((l10, l11, x19, x20))) : Option (Ctl (Bool × Int × (List (List (Int))) × (List (List (Int))) × Int × Int) ((List (List (Int))) × (List (List (Int))) × Int × Int))) = some _ := hm
     replace hq := someE hq
     subst hq
     refine eX_outX hx3 (fun hr6 => ?_)
     replace hr6 := hr6.symm
     subst hr6
     refine eX_block_hit ?_
     exact eX_J (fun hst => ⟨l10, A12, cap12, fp11, fr3, l11, A13, cap13, fp12, fr4, x19, x20, rfl, Fr.of hst (by kernel_rfl), F45, F46, F47, F48, F50, F51, F52, G14, G15, D35, D36, D38, D39, D40, D41, D43, hB, hZ⟩)
   ·rintro a' w44 ⟨l8, A10, cap10, fp9, fr1, l9, A11, cap11, fp10, fr2, x15, x16, hJ, hF11, F100, F101, F102, F103, F104, F105, F106, G32, G33, D127, D128, D129, D130, D131, D132, D133, hB, hZ⟩
    subst hJ
    refine Fr.goX hF11 (by kernel_rfl) ?_
    refine eX_then ?_
    refine cW_seq ?_
    refine cW_region ?_
    refine wS_loadA (d := 108) (T := 27) (ad := ⟨b2, 0, none⟩) (vs := [.int .i64 (x1), .slice A10 (l8).length cap10, .slice A11 (l9).length cap11, .slice A3 (l3).length cap3]) (by kernel_rfl) vt27 (fun i u hu => box_cells F103 0 hu (by rfl)) ?_
    refine wS_store (T := 27) (g := b1) (o := 0) (ad := ⟨b1, 0, none⟩) (v := .agg #[.int .i64 (x1), .slice A10 (l8).length cap10, .slice A11 (l9).length cap11, .slice A3 (l3).length cap3]) (vs := [.int .i64 (x1), .slice A10 (l8).length cap10, .slice A11 (l9).length cap11, .slice A3 (l3).length cap3]) (by kernel_rfl) (by rfl) sz27 (by rfl) (by rfl) F102 (by simp only [List.length_cons, List.length_nil]; omega) ?_
    intro w45 F107 hc34
    replace F100 := F100.chg hc34 (Dj.of L0_0 (low1 G1))
    replace F101 := F101.chg hc34 (dj1 (Dj.of L0 (low1 G1)))
    replace F103 := F103.chg hc34 (dj1 (D1).symm)
    replace F104 := F104.chg hc34 (D33).symm
    replace F105 := F105.chg hc34 (D127).symm
    replace F106 := F106.chg hc34 (D131).symm
    replace hB := hB.inS hc34 (inLow (low1 G1))
    replace hZ := Nat.le_trans hZ hc34.size
    replace F107 : Cl w45 b1 27 [.int .i64 (x1), .slice A10 (l8).length cap10, .slice A11 (l9).length cap11, .slice A3 (l3).length cap3] := F107
    clear F102
    refine wS_end (by rfl) ?_
    refine eX_then ?_
    refine cW_ret ?_
    have hq : (some (((x1, l8, l9, l3), x15, x16)) : Option ((Int × (List (List (Int))) × (List (List (Int))) × (List (Int))) × (Int) × (Int))) = some _ := hm
    replace hq := someE hq
    subst hq
    refine eX_ret (vs := [.agg #[.int .i64 (x1), .slice A10 (l8).length cap10, .slice A11 (l9).length cap11, .slice A3 (l3).length cap3]]) [.cell 2 27] (by rfl) ⟨⟨⟨b1, 0, none⟩, by kernel_rfl, run_loadVarA (vs := [.int .i64 (x1), .slice A10 (l8).length cap10, .slice A11 (l9).length cap11, .slice A3 (l3).length cap3]) vt27 (fun i u hu => by exact box_cells F107 0 hu (by rfl))⟩, trivial⟩ ?_
    exact ⟨A10, cap10, fp9, fr1, A11, cap11, fp10, fr2, A3, cap3, fp2, rfl, F105, G32, F106, G33, F104, G13, (D130).symm, (D129).symm, (D133).symm, F101, hB⟩

set_option maxRecDepth 100000 in
/-- spec.B10Wiring -/
theorem c_spec_B10Wiring {w0 : World} {l0 : List (Int)} {A0 : Option Addr} {cap0 : Nat} {fp0 : List Nat} {r : (Int × (List (List (Int))) × (List (List (Int))) × (List (Int)))} (hm : m_spec_B10Wiring l0 = some r) (F0 : Sl 1 encU w0 fp0 A0 l0) :
  Calls Try.prog 12 #[.slice A0 (l0).length cap0] w0 fun e w' => ∃ A100_1 cap100_1 fp100_1 fr100_1, ∃ A100_2 cap100_2 fp100_2 fr100_2, ∃ A100_3 cap100_3 fp100_3, e = .returned (.agg #[.int .i64 (r.1), .slice A100_1 (r.2.1).length cap100_1, .slice A100_2 (r.2.2.1).length cap100_2, .slice A100_3 (r.2.2.2).length cap100_3]) ∧ OwR 1 encI 25 2 w' fp100_1 fr100_1 A100_1 cap100_1 r.2.1 ∧ (∀ x ∈ fp100_1 ++ fr100_1, w0.heap.size ≤ x) ∧ OwR 1 encI 25 2 w' fp100_2 fr100_2 A100_2 cap100_2 r.2.2.1 ∧ (∀ x ∈ fp100_2 ++ fr100_2, w0.heap.size ≤ x) ∧ Ow 1 encI 2 w' fp100_3 A100_3 cap100_3 r.2.2.2 ∧ (∀ x ∈ fp100_3, w0.heap.size ≤ x) ∧ Dj (fp100_1 ++ fr100_1) (fp100_2 ++ fr100_2) ∧ Dj (fp100_1 ++ fr100_1) fp100_3 ∧ Dj (fp100_2 ++ fr100_2) fp100_3 ∧ Chg [] w0 w' := by
 have L0 := F0.low
 have hB : Chg [] w0 w0 := Chg.refl _ _
 have hZ := Nat.le_refl w0.heap.size
 unfold m_spec_B10Wiring at hm
 refine enterE (N := 17) Try.func12 (by rfl) Try.ntmps12 (by simp) [(0, .slice A0 (l0).length cap0)] (by rfl) (by kernel_rfl) (fun a => ?_)
 refine cW_seq ?_
 refine cW_region ?_
 refine wS_alloc (d := 2) (T := 27) (z := .agg #[.int .i64 (0), .slice none 0 0, .slice none 0 0, .slice none 0 0]) (by kernel_rfl) (by kernel_rfl) ?_
 intro b1 w1 G1 F1 hc1
 replace F1 : Cl w1 b1 27 [.int .i64 (0), .slice none 0 0, .slice none 0 0, .slice none 0 0] := F1
 replace F0 := F0.chg hc1 Dj.nil
 replace hB := hB.inS hc1 inNil
 replace G1 := Nat.le_trans hZ G1
 replace hZ := Nat.le_trans hZ hc1.size
 refine wS_end (by rfl) ?_
 refine eX_then ?_
 refine cW_seq ?_
 refine cW_region ?_
 refine wS_pure 1 [(5, .slice A0 (l0).length cap0)] (by kernel_rfl) ?_
 obtain ⟨y1, hy1, hm⟩ := bindE hm
 refine wS_calls (d := 6) (f := 52) (vs := [.slice A0 (l0).length cap0]) (by kernel_rfl) ent52 (c_spec_l00From hy1 F0) ?_
 rintro _ w2 ⟨b2, rfl, F2, G2, hc2⟩
 have D1 : Dj [b1] [b2] := Dj.of (lt1 F1.lt) (low1 G2)
 replace F0 := F0.chg hc2 Dj.nil
 replace F1 := F1.chg hc2 notNil
 replace hB := hB.inS hc2 inNil
 replace G2 := Nat.le_trans hZ G2
 replace hZ := Nat.le_trans hZ hc2.size
 refine ⟨.pointer (some ⟨b2, 0, none⟩), rfl, ?_⟩
 refine wS_pure 1 [(3, .pointer (some ⟨b2, 0, none⟩))] (by kernel_rfl) ?_
 refine wS_end (by rfl) ?_
 refine eX_then ?_
 refine cW_seq ?_
 refine cW_region ?_
 refine wS_pure 1 [(7, .pointer (some ⟨b2, 0, none⟩))] (by kernel_rfl) ?_
 obtain ⟨y2, hy2, hm⟩ := bindE hm
 refine wS_calls (d := 8) (f := 53) (vs := [.pointer (some ⟨b2, 0, none⟩)]) (by kernel_rfl) ent53 (c_spec_l07DrawOk_bspecl00Src hy2 F0 F2 (Dj.of L0 (low1 G2)).symm) ?_
 rintro _ w3 ⟨A1, cap1, fp1, fr1, A2, cap2, fp2, fr2, A3, cap3, fp3, rfl, F3, G3, F4, G4, F5, G5, D2, D3, D4, F6, hc3⟩
 have D5 : Dj [b1] (fp1 ++ fr1) := Dj.of (lt1 F1.lt) G3
 have D6 : Dj [b2] (fp1 ++ fr1) := Dj.of (lt1 F2.lt) G3
 have D7 : Dj [b1] (fp2 ++ fr2) := Dj.of (lt1 F1.lt) G4
 have D8 : Dj [b2] (fp2 ++ fr2) := Dj.of (lt1 F2.lt) G4
 have D9 : Dj [b1] fp3 := Dj.of (lt1 F1.lt) G5
 have D10 : Dj [b2] fp3 := Dj.of (lt1 F2.lt) G5
 replace F0 := F0.chg hc3 (Dj.app (Dj.of L0 (low1 G2)) Dj.nil)
 replace F1 := F1.chg hc3 (dj1 (Dj.app D1 Dj.nil))
 replace hB := hB.inS hc3 (inApp (inLow (low1 G2)) inNil)
 replace G3 := low_le hZ G3
 replace G4 := low_le hZ G4
 replace G5 := low_le hZ G5
 replace hZ := Nat.le_trans hZ hc3.size
 clear F2
 refine ⟨.agg #[.int .i64 (y2.1.1), .slice A1 (y2.1.2.1).length cap1, .slice A2 (y2.1.2.2.1).length cap2, .slice A3 (y2.1.2.2.2).length cap3], rfl, ?_⟩
 refine wS_alloc (d := 4) (T := 27) (z := .agg #[.int .i64 (0), .slice none 0 0, .slice none 0 0, .slice none 0 0]) (by kernel_rfl) (by kernel_rfl) ?_
 intro b3 w4 G6 F7 hc4
 replace F7 : Cl w4 b3 27 [.int .i64 (0), .slice none 0 0, .slice none 0 0, .slice none 0 0] := F7
 have D11 : Dj [b1] [b3] := Dj.of (lt1 F1.lt) (low1 G6)
 have D12 : Dj [b2] [b3] := Dj.of (lt1 F6.lt) (low1 G6)
 have D13 : Dj (fp1 ++ fr1) [b3] := Dj.of F3.low (low1 G6)
 have D14 : Dj (fp2 ++ fr2) [b3] := Dj.of F4.low (low1 G6)
 have D15 : Dj fp3 [b3] := Dj.of F5.low (low1 G6)
 replace F0 := F0.chg hc4 Dj.nil
 replace F1 := F1.chg hc4 notNil
 replace F6 := F6.chg hc4 notNil
 replace F3 := F3.chg hc4 Dj.nil
 replace F4 := F4.chg hc4 Dj.nil
 replace F5 := F5.chg hc4 Dj.nil
 replace hB := hB.inS hc4 inNil
 replace G6 := Nat.le_trans hZ G6
 replace hZ := Nat.le_trans hZ hc4.size
 refine wS_store (T := 27) (g := b3) (o := 0) (ad := ⟨b3, 0, none⟩) (v := .agg #[.int .i64 (y2.1.1), .slice A1 (y2.1.2.1).length cap1, .slice A2 (y2.1.2.2.1).length cap2, .slice A3 (y2.1.2.2.2).length cap3]) (vs := [.int .i64 (y2.1.1), .slice A1 (y2.1.2.1).length cap1, .slice A2 (y2.1.2.2.1).length cap2, .slice A3 (y2.1.2.2.2).length cap3]) (by kernel_rfl) (by rfl) sz27 (by rfl) (by rfl) F7 (by simp only [List.length_cons, List.length_nil]; omega) ?_
 intro w5 F8 hc5
 replace F0 := F0.chg hc5 (Dj.of L0 (low1 G6))
 replace F1 := F1.chg hc5 (dj1 D11)
 replace F6 := F6.chg hc5 (dj1 D12)
 replace F3 := F3.chg hc5 D13
 replace F4 := F4.chg hc5 D14
 replace F5 := F5.chg hc5 D15
 replace hB := hB.inS hc5 (inLow (low1 G6))
 replace hZ := Nat.le_trans hZ hc5.size
 replace F8 : Cl w5 b3 27 [.int .i64 (y2.1.1), .slice A1 (y2.1.2.1).length cap1, .slice A2 (y2.1.2.2.1).length cap2, .slice A3 (y2.1.2.2.2).length cap3] := F8
 clear F7
 refine wS_end (by rfl) ?_
 refine eX_then ?_
 refine cW_seq ?_
 refine cW_seq ?_
 refine cW_region ?_
 refine wS_pure 1 [(9, .pointer (some ⟨b3, 0, none⟩))] (by kernel_rfl) ?_
 refine wS_load1 (d := 10) (T := 2) (ad := ⟨b3, 0, none⟩) (v := .int .i64 (y2.1.1)) (by kernel_rfl) vt2 ((F8).cell 0) ?_
 refine wS_pure 1 [(11, .bool (decide (y2.1.1 > 8)))] (by kernel_rfl) ?_
 refine wS_end (by rfl) ?_
 refine eX_then ?_
 refine cW_cond (t := decide (y2.1.1 > 8)) (by kernel_rfl) (fun hb1 => ?_) (fun hb1 => ?_)
 ·have hm := condT hb1 hm
  refine cW_seq ?_
  refine cW_region ?_
  refine wS_bs (enc := encI) ([0, 1] : List (Int)) [.int .i64 (0), .int .i64 (1)] (d := 12) (t := 25) (T := 2) (n := 2) (ps := [(0, .int .i64 (0)), (1, .int .i64 (1))]) (by kernel_rfl) el25 encI_ok (by rfl) (by omega) (by omega) (by kernel_rfl) (by rfl) ?_
  intro b4 w6 G7 F9 hc6
  have D16 : Dj [b1] [b4] := Dj.of (lt1 F1.lt) (low1 G7)
  have D17 : Dj [b2] [b4] := Dj.of (lt1 F6.lt) (low1 G7)
  have D18 : Dj (fp1 ++ fr1) [b4] := Dj.of F3.low (low1 G7)
  have D19 : Dj (fp2 ++ fr2) [b4] := Dj.of F4.low (low1 G7)
  have D20 : Dj fp3 [b4] := Dj.of F5.low (low1 G7)
  have D21 : Dj [b3] [b4] := Dj.of (lt1 F8.lt) (low1 G7)
  replace F0 := F0.chg hc6 Dj.nil
  replace F1 := F1.chg hc6 notNil
  replace F6 := F6.chg hc6 notNil
  replace F3 := F3.chg hc6 Dj.nil
  replace F4 := F4.chg hc6 Dj.nil
  replace F5 := F5.chg hc6 Dj.nil
  replace F8 := F8.chg hc6 notNil
  replace hB := hB.inS hc6 inNil
  replace G7 := Nat.le_trans hZ G7
  replace G7 := low1 G7
  replace hZ := Nat.le_trans hZ hc6.size
  refine wS_row1 (k := 1) (enc := encI) (l := ([0, 1] : List (Int))) (d := 13) (t := 24) (T := 25) (B := (some ⟨b4, 0, none⟩)) (c := 2) (by kernel_rfl) el24 F9 ?_
  intro b5 w7 G8 F10 hc7
  have D22 : Dj [b1] ([b5] ++ [b4]) := Dj.app (Dj.of (lt1 F1.lt) (low1 G8)) D16
  have D23 : Dj [b2] ([b5] ++ [b4]) := Dj.app (Dj.of (lt1 F6.lt) (low1 G8)) D17
  have D24 : Dj (fp1 ++ fr1) ([b5] ++ [b4]) := Dj.app (Dj.of F3.low (low1 G8)) D18
  have D25 : Dj (fp2 ++ fr2) ([b5] ++ [b4]) := Dj.app (Dj.of F4.low (low1 G8)) D19
  have D26 : Dj fp3 ([b5] ++ [b4]) := Dj.app (Dj.of F5.low (low1 G8)) D20
  have D27 : Dj [b3] ([b5] ++ [b4]) := Dj.app (Dj.of (lt1 F8.lt) (low1 G8)) D21
  replace F0 := F0.chg hc7 Dj.nil
  replace F1 := F1.chg hc7 notNil
  replace F6 := F6.chg hc7 notNil
  replace F3 := F3.chg hc7 Dj.nil
  replace F4 := F4.chg hc7 Dj.nil
  replace F5 := F5.chg hc7 Dj.nil
  replace F8 := F8.chg hc7 notNil
  replace F9 := F9.chg hc7 Dj.nil
  replace hB := hB.inS hc7 inNil
  replace G8 := Nat.le_trans hZ G8
  replace G8 := lowApp (low1 G8) G7
  replace hZ := Nat.le_trans hZ hc7.size
  replace F9 := (F9.sl encI_ok)
  refine wS_bs (enc := encI) ([(-1), (-1)] : List (Int)) [.int .i64 ((-1)), .int .i64 ((-1))] (d := 14) (t := 25) (T := 2) (n := 2) (ps := [(0, .int .i64 ((-1))), (1, .int .i64 ((-1)))]) (by kernel_rfl) el25 encI_ok (by rfl) (by omega) (by omega) (by kernel_rfl) (by rfl) ?_
  intro b6 w8 G9 F11 hc8
  have D28 : Dj [b1] [b6] := Dj.of (lt1 F1.lt) (low1 G9)
  have D29 : Dj [b2] [b6] := Dj.of (lt1 F6.lt) (low1 G9)
  have D30 : Dj (fp1 ++ fr1) [b6] := Dj.of F3.low (low1 G9)
  have D31 : Dj (fp2 ++ fr2) [b6] := Dj.of F4.low (low1 G9)
  have D32 : Dj fp3 [b6] := Dj.of F5.low (low1 G9)
  have D33 : Dj [b3] [b6] := Dj.of (lt1 F8.lt) (low1 G9)
  have D34 : Dj [b4] [b6] := Dj.of F9.low (low1 G9)
  have D35 : Dj ([b5] ++ [b4]) [b6] := Dj.of F10.low (low1 G9)
  replace F0 := F0.chg hc8 Dj.nil
  replace F1 := F1.chg hc8 notNil
  replace F6 := F6.chg hc8 notNil
  replace F3 := F3.chg hc8 Dj.nil
  replace F4 := F4.chg hc8 Dj.nil
  replace F5 := F5.chg hc8 Dj.nil
  replace F8 := F8.chg hc8 notNil
  replace F9 := F9.chg hc8 Dj.nil
  replace F10 := F10.chg hc8 Dj.nil
  replace hB := hB.inS hc8 inNil
  replace G9 := Nat.le_trans hZ G9
  replace G9 := low1 G9
  replace hZ := Nat.le_trans hZ hc8.size
  refine wS_pure 1 [(15, .agg #[.int .i64 (2), .slice (some ⟨b5, 0, none⟩) (([([0, 1] : List (Int))] : List (List (Int)))).length 1, .slice none 0 0, .slice (some ⟨b6, 0, none⟩) (([(-1), (-1)] : List (Int))).length 2])] (by kernel_rfl) ?_
  refine wS_store (T := 27) (g := b1) (o := 0) (ad := ⟨b1, 0, none⟩) (v := .agg #[.int .i64 (2), .slice (some ⟨b5, 0, none⟩) (([([0, 1] : List (Int))] : List (List (Int)))).length 1, .slice none 0 0, .slice (some ⟨b6, 0, none⟩) (([(-1), (-1)] : List (Int))).length 2]) (vs := [.int .i64 (2), .slice (some ⟨b5, 0, none⟩) (([([0, 1] : List (Int))] : List (List (Int)))).length 1, .slice none 0 0, .slice (some ⟨b6, 0, none⟩) (([(-1), (-1)] : List (Int))).length 2]) (by kernel_rfl) (by rfl) sz27 (by rfl) (by rfl) F1 (by simp only [List.length_cons, List.length_nil]; omega) ?_
  intro w9 F12 hc9
  replace F0 := F0.chg hc9 (Dj.of L0 (low1 G1))
  replace F6 := F6.chg hc9 (dj1 (D1).symm)
  replace F3 := F3.chg hc9 (D5).symm
  replace F4 := F4.chg hc9 (D7).symm
  replace F5 := F5.chg hc9 (D9).symm
  replace F8 := F8.chg hc9 (dj1 (D11).symm)
  replace F9 := F9.chg hc9 (D16).symm
  replace F10 := F10.chg hc9 (D22).symm
  replace F11 := F11.chg hc9 (D28).symm
  replace hB := hB.inS hc9 (inLow (low1 G1))
  replace hZ := Nat.le_trans hZ hc9.size
  replace F12 : Cl w9 b1 27 [.int .i64 (2), .slice (some ⟨b5, 0, none⟩) (([([0, 1] : List (Int))] : List (List (Int)))).length 1, .slice none 0 0, .slice (some ⟨b6, 0, none⟩) (([(-1), (-1)] : List (Int))).length 2] := F12
  clear F1
  refine wS_end (by rfl) ?_
  refine eX_then ?_
  refine cW_ret ?_
  refine eX_then_ret ?_
  have hq : (some ((2, ([([0, 1] : List (Int))] : List (List (Int))), [], ([(-1), (-1)] : List (Int)))) : Option ((Int × (List (List (Int))) × (List (List (Int))) × (List (Int))))) = some _ := hm
  replace hq := someE hq
  subst hq
  refine eX_ret (vs := [.agg #[.int .i64 (2), .slice (some ⟨b5, 0, none⟩) (([([0, 1] : List (Int))] : List (List (Int)))).length 1, .slice none 0 0, .slice (some ⟨b6, 0, none⟩) (([(-1), (-1)] : List (Int))).length 2]]) [.cell 2 27] (by rfl) ⟨⟨⟨b1, 0, none⟩, by kernel_rfl, run_loadVarA (vs := [.int .i64 (2), .slice (some ⟨b5, 0, none⟩) (([([0, 1] : List (Int))] : List (List (Int)))).length 1, .slice none 0 0, .slice (some ⟨b6, 0, none⟩) (([(-1), (-1)] : List (Int))).length 2]) vt27 (fun i u hu => by exact box_cells F12 0 hu (by rfl))⟩, trivial⟩ ?_
  exact ⟨(some ⟨b5, 0, none⟩), 1, [b5], [b4], none, 0, [], [], (some ⟨b6, 0, none⟩), 2, [b6], rfl, F10, G8, OwR.nil _, (lowApp lowNil lowNil), F11, G9, (Dj.app Dj.nil Dj.nil), D35, ((Dj.app Dj.nil Dj.nil)).symm, hB⟩
 ·have hm := condF hb1 hm
  refine cW_skip ?_
  refine eX_then ?_
  refine cW_seq ?_
  refine cW_region ?_
  refine wS_loadA (d := 16) (T := 27) (ad := ⟨b3, 0, none⟩) (vs := [.int .i64 (y2.1.1), .slice A1 (y2.1.2.1).length cap1, .slice A2 (y2.1.2.2.1).length cap2, .slice A3 (y2.1.2.2.2).length cap3]) (by kernel_rfl) vt27 (fun i u hu => box_cells F8 0 hu (by rfl)) ?_
  refine wS_store (T := 27) (g := b1) (o := 0) (ad := ⟨b1, 0, none⟩) (v := .agg #[.int .i64 (y2.1.1), .slice A1 (y2.1.2.1).length cap1, .slice A2 (y2.1.2.2.1).length cap2, .slice A3 (y2.1.2.2.2).length cap3]) (vs := [.int .i64 (y2.1.1), .slice A1 (y2.1.2.1).length cap1, .slice A2 (y2.1.2.2.1).length cap2, .slice A3 (y2.1.2.2.2).length cap3]) (by kernel_rfl) (by rfl) sz27 (by rfl) (by rfl) F1 (by simp only [List.length_cons, List.length_nil]; omega) ?_
  intro w10 F13 hc10
  replace F0 := F0.chg hc10 (Dj.of L0 (low1 G1))
  replace F6 := F6.chg hc10 (dj1 (D1).symm)
  replace F3 := F3.chg hc10 (D5).symm
  replace F4 := F4.chg hc10 (D7).symm
  replace F5 := F5.chg hc10 (D9).symm
  replace F8 := F8.chg hc10 (dj1 (D11).symm)
  replace hB := hB.inS hc10 (inLow (low1 G1))
  replace hZ := Nat.le_trans hZ hc10.size
  replace F13 : Cl w10 b1 27 [.int .i64 (y2.1.1), .slice A1 (y2.1.2.1).length cap1, .slice A2 (y2.1.2.2.1).length cap2, .slice A3 (y2.1.2.2.2).length cap3] := F13
  clear F1
  refine wS_end (by rfl) ?_
  refine eX_then ?_
  refine cW_ret ?_
  have hq : (some ((y2.1.1, y2.1.2.1, y2.1.2.2.1, y2.1.2.2.2)) : Option ((Int × (List (List (Int))) × (List (List (Int))) × (List (Int))))) = some _ := hm
  replace hq := someE hq
  subst hq
  refine eX_ret (vs := [.agg #[.int .i64 (y2.1.1), .slice A1 (y2.1.2.1).length cap1, .slice A2 (y2.1.2.2.1).length cap2, .slice A3 (y2.1.2.2.2).length cap3]]) [.cell 2 27] (by rfl) ⟨⟨⟨b1, 0, none⟩, by kernel_rfl, run_loadVarA (vs := [.int .i64 (y2.1.1), .slice A1 (y2.1.2.1).length cap1, .slice A2 (y2.1.2.2.1).length cap2, .slice A3 (y2.1.2.2.2).length cap3]) vt27 (fun i u hu => by exact box_cells F13 0 hu (by rfl))⟩, trivial⟩ ?_
  exact ⟨A1, cap1, fp1, fr1, A2, cap2, fp2, fr2, A3, cap3, fp3, rfl, F3, G3, F4, G4, F5, G5, D2, D3, D4, hB⟩

set_option maxRecDepth 100000 in
/-- impl.in -/
theorem c_impl_in {w0 : World} {p0 : Int} {p1 : Int} {p2 : Int} {r : (Bool)} (hm : m_impl_in p0 p1 p2 = some r)  :
  Calls Try.prog 57 #[.int .i64 (p0), .int .i64 (p1), .int .i64 (p2)] w0 fun e w' => e = .returned (.bool (r)) ∧ Chg [] w0 w' := by
 have hB : Chg [] w0 w0 := Chg.refl _ _
 have hZ := Nat.le_refl w0.heap.size
 unfold m_impl_in at hm
 refine enterE (N := 15) Try.func57 (by rfl) Try.ntmps57 (by simp) [(0, .int .i64 (p0)), (1, .int .i64 (p1)), (2, .int .i64 (p2))] (by rfl) (by kernel_rfl) (fun a => ?_)
 refine cW_seq ?_
 refine cW_region ?_
 refine wS_pure 1 [(6, .bool (false))] (by kernel_rfl) ?_
 refine wS_end (by rfl) ?_
 refine eX_then ?_
 refine cW_seq ?_
 refine cW_region ?_
 refine wS_pure 4 [(10, .bool (decide (p0 ≥ p1))), (9, .bool (decide (p0 ≥ p1))), (8, .int .i64 (p1)), (7, .int .i64 (p0))] (by kernel_rfl) ?_
 refine wS_bool (decide (p0 ≥ p1)) (fun hb1 => ?_) (fun hb1 => ?_)
 ·have hm := condT hb1 hm
  rewrite [hb1]
  refine wS_pure 5 [(6, .bool (decide (p0 ≤ p2))), (14, .bool (decide (p0 ≤ p2))), (13, .bool (decide (p0 ≤ p2))), (12, .int .i64 (p2)), (11, .int .i64 (p0))] (by kernel_rfl) ?_
  refine wS_end (by rfl) ?_
  refine eX_then ?_
  refine cW_ret ?_
  have hq : (some (decide (p0 ≤ p2)) : Option ((Bool))) = some _ := hm
  replace hq := someE hq
  subst hq
  refine eX_ret (vs := [.bool (decide (p0 ≤ p2))]) [.tmp 6] (by rfl) ⟨by (show lkE _ _ _ = _); kernel_rfl, trivial⟩ ?_
  exact ⟨rfl, hB⟩
 ·have hm := condF hb1 hm
  rewrite [hb1]
  refine wS_pure 5 [(6, .bool (false)), (14, .bool (false)), (13, undef), (12, undef), (11, undef)] (by kernel_rfl) ?_
  refine wS_end (by rfl) ?_
  refine eX_then ?_
  refine cW_ret ?_
  have hq : (some false : Option ((Bool))) = some _ := hm
  replace hq := someE hq
  subst hq
  refine eX_ret (vs := [.bool (false)]) [.tmp 6] (by rfl) ⟨by (show lkE _ _ _ = _); kernel_rfl, trivial⟩ ?_
  exact ⟨rfl, hB⟩

set_option maxRecDepth 100000 in
/-- cmp.isNaN[int64] -/
theorem c_cmp_isNaN_int64 {w0 : World} {p0 : Int} {r : (Bool)} (hm : m_cmp_isNaN_int64 p0 = some r)  :
  Calls Try.prog 147 #[.int .i64 (p0)] w0 fun e w' => e = .returned (.bool (r)) ∧ Chg [] w0 w' := by
 have hB : Chg [] w0 w0 := Chg.refl _ _
 have hZ := Nat.le_refl w0.heap.size
 unfold m_cmp_isNaN_int64 at hm
 refine enterE (N := 6) Try.func147 (by rfl) Try.ntmps147 (by simp) [(0, .int .i64 (p0))] (by rfl) (by kernel_rfl) (fun a => ?_)
 refine cW_seq ?_
 refine cW_region ?_
 refine wS_pure 1 [(2, .bool (false))] (by kernel_rfl) ?_
 refine wS_end (by rfl) ?_
 refine eX_then ?_
 refine cW_seq ?_
 refine cW_region ?_
 refine wS_pure 4 [(2, .bool (p0 != p0)), (5, .bool (p0 != p0)), (4, .int .i64 (p0)), (3, .int .i64 (p0))] (by kernel_rfl) ?_
 refine wS_end (by rfl) ?_
 refine eX_then ?_
 refine cW_ret ?_
 have hq : (some (p0 != p0) : Option ((Bool))) = some _ := hm
 replace hq := someE hq
 subst hq
 refine eX_ret (vs := [.bool (p0 != p0)]) [.tmp 2] (by rfl) ⟨by (show lkE _ _ _ = _); kernel_rfl, trivial⟩ ?_
 exact ⟨rfl, hB⟩

set_option maxRecDepth 100000 in
/-- cmp.Compare[int64] -/
theorem c_cmp_Compare_int64 {w0 : World} {p0 : Int} {p1 : Int} {r : (Int)} (hm : m_cmp_Compare_int64 p0 p1 = some r)  :
  Calls Try.prog 127 #[.int .i64 (p0), .int .i64 (p1)] w0 fun e w' => e = .returned (.int .i64 (r)) ∧ Chg [] w0 w' := by
 have hB : Chg [] w0 w0 := Chg.refl _ _
 have hZ := Nat.le_refl w0.heap.size
 unfold m_cmp_Compare_int64 at hm
 refine enterE (N := 20) Try.func127 (by rfl) Try.ntmps127 (by simp) [(0, .int .i64 (p0)), (1, .int .i64 (p1))] (by rfl) (by kernel_rfl) (fun a => ?_)
 refine cW_seq ?_
 refine cW_region ?_
 refine wS_pure 1 [(4, .int .i64 (0))] (by kernel_rfl) ?_
 refine wS_end (by rfl) ?_
 refine eX_then ?_
 refine cW_seq ?_
 refine cW_region ?_
 refine wS_pure 1 [(7, .int .i64 (p0))] (by kernel_rfl) ?_
 obtain ⟨y1, hy1, hm⟩ := bindE hm
 refine wS_calls (d := 8) (f := 147) (vs := [.int .i64 (p0)]) (by kernel_rfl) ent147 (c_cmp_isNaN_int64 hy1) ?_
 rintro _ w1 ⟨rfl, hc1⟩
 replace hB := hB.inS hc1 inNil
 replace hZ := Nat.le_trans hZ hc1.size
 refine ⟨.bool (y1), rfl, ?_⟩
 refine wS_pure 1 [(5, .bool (y1))] (by kernel_rfl) ?_
 refine wS_end (by rfl) ?_
 refine eX_then ?_
 refine cW_seq ?_
 refine cW_region ?_
 refine wS_pure 1 [(9, .int .i64 (p1))] (by kernel_rfl) ?_
 obtain ⟨y2, hy2, hm⟩ := bindE hm
 refine wS_calls (d := 10) (f := 147) (vs := [.int .i64 (p1)]) (by kernel_rfl) ent147 (c_cmp_isNaN_int64 hy2) ?_
 rintro _ w2 ⟨rfl, hc2⟩
 replace hB := hB.inS hc2 inNil
 replace hZ := Nat.le_trans hZ hc2.size
 refine ⟨.bool (y2), rfl, ?_⟩
 refine wS_pure 1 [(6, .bool (y2))] (by kernel_rfl) ?_
 refine wS_end (by rfl) ?_
 refine eX_then ?_
 refine cW_seq ?_
 refine cW_seq ?_
 refine cW_region ?_
 refine wS_pure 1 [(11, .bool (y1))] (by kernel_rfl) ?_
 refine wS_end (by rfl) ?_
 refine eX_then ?_
 refine cW_cond (t := y1) (by kernel_rfl) (fun hb1 => ?_) (fun hb1 => ?_)
 ·have hm := condT hb1 hm
  refine cW_seq ?_
  refine cW_seq ?_
  refine cW_region ?_
  refine wS_pure 1 [(12, .bool (y2))] (by kernel_rfl) ?_
  refine wS_end (by rfl) ?_
  refine eX_then ?_
  refine cW_cond (t := y2) (by kernel_rfl) (fun hb2 => ?_) (fun hb2 => ?_)
  ·have hm := condT hb2 hm
   refine cW_seq ?_
   refine cW_region ?_
   refine wS_pure 1 [(4, .int .i64 (0))] (by kernel_rfl) ?_
   refine wS_end (by rfl) ?_
   refine eX_then ?_
   refine cW_ret ?_
   refine eX_then_ret ?_
   refine eX_then_ret ?_
   have hq : (some 0 : Option ((Int))) = some _ := hm
   replace hq := someE hq
   subst hq
   refine eX_ret (vs := [.int .i64 (0)]) [.tmp 4] (by rfl) ⟨by (show lkE _ _ _ = _); kernel_rfl, trivial⟩ ?_
   exact ⟨rfl, hB⟩
  ·have hm := condF hb2 hm
   refine cW_skip ?_
   refine eX_then ?_
   refine cW_seq ?_
   refine cW_region ?_
   refine wS_pure 1 [(4, .int .i64 ((-1)))] (by kernel_rfl) ?_
   refine wS_end (by rfl) ?_
   refine eX_then ?_
   refine cW_ret ?_
   refine eX_then_ret ?_
   have hq : (some ((-1)) : Option ((Int))) = some _ := hm
   replace hq := someE hq
   subst hq
   refine eX_ret (vs := [.int .i64 ((-1))]) [.tmp 4] (by rfl) ⟨by (show lkE _ _ _ = _); kernel_rfl, trivial⟩ ?_
   exact ⟨rfl, hB⟩
 ·have hm := condF hb1 hm
  refine cW_skip ?_
  refine eX_then ?_
  refine cW_seq ?_
  refine cW_seq ?_
  refine cW_region ?_
  refine wS_pure 1 [(13, .bool (y2))] (by kernel_rfl) ?_
  refine wS_end (by rfl) ?_
  refine eX_then ?_
  refine cW_cond (t := y2) (by kernel_rfl) (fun hb3 => ?_) (fun hb3 => ?_)
  ·have hm := condT hb3 hm
   refine cW_seq ?_
   refine cW_region ?_
   refine wS_pure 1 [(4, .int .i64 (1))] (by kernel_rfl) ?_
   refine wS_end (by rfl) ?_
   refine eX_then ?_
   refine cW_ret ?_
   refine eX_then_ret ?_
   have hq : (some 1 : Option ((Int))) = some _ := hm
   replace hq := someE hq
   subst hq
   refine eX_ret (vs := [.int .i64 (1)]) [.tmp 4] (by rfl) ⟨by (show lkE _ _ _ = _); kernel_rfl, trivial⟩ ?_
   exact ⟨rfl, hB⟩
  ·have hm := condF hb3 hm
   refine cW_skip ?_
   refine eX_then ?_
   refine cW_seq ?_
   refine cW_seq ?_
   refine cW_region ?_
   refine wS_pure 3 [(16, .bool (decide (p0 < p1))), (15, .int .i64 (p1)), (14, .int .i64 (p0))] (by kernel_rfl) ?_
   refine wS_end (by rfl) ?_
   refine eX_then ?_
   refine cW_cond (t := decide (p0 < p1)) (by kernel_rfl) (fun hb4 => ?_) (fun hb4 => ?_)
   ·have hm := condT hb4 hm
    refine cW_seq ?_
    refine cW_region ?_
    refine wS_pure 1 [(4, .int .i64 ((-1)))] (by kernel_rfl) ?_
    refine wS_end (by rfl) ?_
    refine eX_then ?_
    refine cW_ret ?_
    refine eX_then_ret ?_
    have hq : (some ((-1)) : Option ((Int))) = some _ := hm
    replace hq := someE hq
    subst hq
    refine eX_ret (vs := [.int .i64 ((-1))]) [.tmp 4] (by rfl) ⟨by (show lkE _ _ _ = _); kernel_rfl, trivial⟩ ?_
    exact ⟨rfl, hB⟩
   ·have hm := condF hb4 hm
    refine cW_skip ?_
    refine eX_then ?_
    refine cW_seq ?_
    refine cW_seq ?_
    refine cW_region ?_
    refine wS_pure 3 [(19, .bool (decide (p0 > p1))), (18, .int .i64 (p1)), (17, .int .i64 (p0))] (by kernel_rfl) ?_
    refine wS_end (by rfl) ?_
    refine eX_then ?_
    refine cW_cond (t := decide (p0 > p1)) (by kernel_rfl) (fun hb5 => ?_) (fun hb5 => ?_)
    ·have hm := condT hb5 hm
     refine cW_seq ?_
     refine cW_region ?_
     refine wS_pure 1 [(4, .int .i64 (1))] (by kernel_rfl) ?_
     refine wS_end (by rfl) ?_
     refine eX_then ?_
     refine cW_ret ?_
     refine eX_then_ret ?_
     have hq : (some 1 : Option ((Int))) = some _ := hm
     replace hq := someE hq
     subst hq
     refine eX_ret (vs := [.int .i64 (1)]) [.tmp 4] (by rfl) ⟨by (show lkE _ _ _ = _); kernel_rfl, trivial⟩ ?_
     exact ⟨rfl, hB⟩
    ·have hm := condF hb5 hm
     refine cW_skip ?_
     refine eX_then ?_
     refine cW_seq ?_
     refine cW_region ?_
     refine wS_pure 1 [(4, .int .i64 (0))] (by kernel_rfl) ?_
     refine wS_end (by rfl) ?_
     refine eX_then ?_
     refine cW_ret ?_
     have hq : (some 0 : Option ((Int))) = some _ := hm
     replace hq := someE hq
     subst hq
     refine eX_ret (vs := [.int .i64 (0)]) [.tmp 4] (by rfl) ⟨by (show lkE _ _ _ = _); kernel_rfl, trivial⟩ ?_
     exact ⟨rfl, hB⟩

set_option maxRecDepth 100000 in
/-- slices.Compare[[]int64,int64] -/
theorem c_slices_Compare_int64_int64 {w0 : World} {l0 : List (Int)} {A0 : Option Addr} {cap0 : Nat} {fp0 : List Nat} {l1 : List (Int)} {A1 : Option Addr} {cap1 : Nat} {fp1 : List Nat} {r : (Int)} (hm : m_slices_Compare_int64_int64 l0 l1 = some r) (F0 : Sl 1 encI w0 fp0 A0 l0) (F1 : Sl 1 encI w0 fp1 A1 l1) :
  Calls Try.prog 100 #[.slice A0 (l0).length cap0, .slice A1 (l1).length cap1] w0 fun e w' => e = .returned (.int .i64 (r)) ∧ Chg [] w0 w' := by
 have L0 := F0.low
 have L1 := F1.low
 have hB : Chg [] w0 w0 := Chg.refl _ _
 have hZ := Nat.le_refl w0.heap.size
 unfold m_slices_Compare_int64_int64 at hm
 refine enterE (N := 36) Try.func100 (by rfl) Try.ntmps100 (by simp) [(0, .slice A0 (l0).length cap0), (1, .slice A1 (l1).length cap1)] (by rfl) (by kernel_rfl) (fun a => ?_)
 refine cW_seq ?_
 refine cW_region ?_
 refine wS_pure 1 [(4, .int .i64 (0))] (by kernel_rfl) ?_
 refine wS_end (by rfl) ?_
 refine eX_then ?_
 refine cW_seq ?_
 refine cW_seq ?_
 refine cW_region ?_
 refine wS_pure 3 [(11, .int .i64 (0)), (10, .int .i64 (((l0).length : Int))), (9, .slice A0 (l0).length cap0)] (by kernel_rfl) ?_
 refine wS_end (by rfl) ?_
 refine eX_then ?_
 obtain ⟨r1, hr1, hm⟩ := bindE hm
 have hm1 := hm
 refine cW_cut (fun a' w' => Sum.inl (()) = r1 ∧ Fr 36 [(0, .slice A0 (l0).length cap0), (1, .slice A1 (l1).length cap1)] a' ∧ Sl 1 encI w' fp0 A0 l0 ∧ Sl 1 encI w' fp1 A1 l1 ∧ Chg [] w0 w' ∧ w0.heap.size ≤ w'.heap.size) ?_ ?_
 ·refine cW_block ?_
  refine cW_loop _ (fun (s1 : Int) a' w' => ∃ x1 : Int, x1 = s1 ∧ Fr 36 [(0, .slice A0 (l0).length cap0), (1, .slice A1 (l1).length cap1), (9, .slice A0 (l0).length cap0), (10, .int .i64 (((l0).length : Int))), (11, .int .i64 (x1))] a' ∧ Sl 1 encI w' fp0 A0 l0 ∧ Sl 1 encI w' fp1 A1 l1 ∧ Chg [] w0 w' ∧ w0.heap.size ≤ w'.heap.size) hr1 (fun hst => ⟨0, rfl, Fr.of hst (by kernel_rfl), F0, F1, hB, hZ⟩) ?_
  rintro _ c1 a' w1 ⟨x1, rfl, hF1, F2, F3, hB, hZ⟩ hx1
  refine Fr.goOn hF1 (by kernel_rfl) ?_
  have hm := hx1
  unfold m_slices_Compare_int64_int64_s1 at hm
  refine cW_seq ?_
  refine cW_region ?_
  refine wS_pure 1 [(12, .bool (decide (x1 < (((l0).length : Int)))))] (by kernel_rfl) ?_
  refine wS_end (by rfl) ?_
  refine eX_then ?_
  refine cW_seq ?_
  refine cW_cond (t := decide (x1 < (((l0).length : Int)))) (by kernel_rfl) (fun hb1 => ?_) (fun hb1 => ?_)
  ·have hm := condT hb1 hm
   refine cW_skip ?_
   refine eX_then ?_
   refine cW_seq ?_
   refine cW_block ?_
   refine cW_seq ?_
   refine cW_region ?_
   refine wS_pure 1 [(13, .int .i64 (x1))] (by kernel_rfl) ?_
   obtain ⟨x2, hx2, hm⟩ := bindE hm
   refine wS_idx (d := 14) (T := 25) (A := A0) (n := (l0).length) (cap := cap0) (kd := .i64) (m := x1) (by kernel_rfl) sl25 (F2.is hx2) ?_
   refine wS_load1 (d := 15) (T := 2) (ad := (elA A0 1 (x1) 0)) (v := .int .i64 (x2)) (by kernel_rfl) vt2 (Sl.cell F2 hx2 0 (by rfl)) ?_
   refine wS_pure 2 [(6, .int .i64 (x2)), (5, .int .i64 (x1))] (by kernel_rfl) ?_
   refine wS_end (by rfl) ?_
   refine eX_then ?_
   refine cW_seq ?_
   refine cW_seq ?_
   refine cW_region ?_
   refine wS_pure 4 [(19, .bool (decide (x1 ≥ (((l1).length : Int))))), (18, .int .i64 (((l1).length : Int))), (17, .slice A1 (l1).length cap1), (16, .int .i64 (x1))] (by kernel_rfl) ?_
   refine wS_end (by rfl) ?_
   refine eX_then ?_
   refine cW_cond (t := decide (x1 ≥ (((l1).length : Int)))) (by kernel_rfl) (fun hb2 => ?_) (fun hb2 => ?_)
   ·have hm := condT hb2 hm
    refine cW_seq ?_
    refine cW_region ?_
    refine wS_pure 1 [(4, .int .i64 (1))] (by kernel_rfl) ?_
    refine wS_end (by rfl) ?_
    refine eX_then ?_
    refine cW_ret ?_
    refine eX_then_ret ?_
    refine eX_block_ret ?_
    refine eX_then_ret ?_
    have hq : (some (Ctl.out (Sum.inr 1)) : Option (Ctl (Int) (Sum (Unit) ((Int))))) = some _ := hm
    replace hq := someE hq
    subst hq
    refine eX_outR hx1 (fun hr => ?_)
    subst hr
    refine eX_block_ret ?_
    refine eX_then_ret ?_
    refine eX_then_ret ?_
    have hq : (some 1 : Option ((Int))) = some _ := hm1
    replace hq := someE hq
    subst hq
    refine eX_ret (vs := [.int .i64 (1)]) [.tmp 4] (by rfl) ⟨by (show lkE _ _ _ = _); kernel_rfl, trivial⟩ ?_
    exact ⟨rfl, hB⟩
   ·have hm := condF hb2 hm
    refine cW_skip ?_
    refine eX_then ?_
    refine cW_seq ?_
    refine cW_region ?_
    refine wS_pure 2 [(21, .int .i64 (x1)), (20, .slice A1 (l1).length cap1)] (by kernel_rfl) ?_
    obtain ⟨x3, hx3, hm⟩ := bindE hm
    refine wS_idx (d := 22) (T := 25) (A := A1) (n := (l1).length) (cap := cap1) (kd := .i64) (m := x1) (by kernel_rfl) sl25 (F3.is hx3) ?_
    refine wS_load1 (d := 23) (T := 2) (ad := (elA A1 1 (x1) 0)) (v := .int .i64 (x3)) (by kernel_rfl) vt2 (Sl.cell F3 hx3 0 (by rfl)) ?_
    refine wS_pure 1 [(7, .int .i64 (x3))] (by kernel_rfl) ?_
    refine wS_end (by rfl) ?_
    refine eX_then ?_
    refine cW_seq ?_
    refine cW_region ?_
    refine wS_pure 2 [(25, .int .i64 (x3)), (24, .int .i64 (x2))] (by kernel_rfl) ?_
    obtain ⟨y1, hy1, hm⟩ := bindE hm
    refine wS_calls (d := 26) (f := 127) (vs := [.int .i64 (x2), .int .i64 (x3)]) (by kernel_rfl) ent127 (c_cmp_Compare_int64 hy1) ?_
    rintro _ w2 ⟨rfl, hc1⟩
    replace F2 := F2.chg hc1 Dj.nil
    replace F3 := F3.chg hc1 Dj.nil
    replace hB := hB.inS hc1 inNil
    replace hZ := Nat.le_trans hZ hc1.size
    refine ⟨.int .i64 (y1), rfl, ?_⟩
    refine wS_pure 1 [(8, .int .i64 (y1))] (by kernel_rfl) ?_
    refine wS_end (by rfl) ?_
    refine eX_then ?_
    refine cW_prune [(0, .slice A0 (l0).length cap0), (1, .slice A1 (l1).length cap1), (8, .int .i64 (y1)), (9, .slice A0 (l0).length cap0), (10, .int .i64 (((l0).length : Int))), (11, .int .i64 (x1))] (by kernel_rfl) (by kernel_rfl) (fun a1 => ?_)
    refine cW_seq ?_
    refine cW_region ?_
    refine wS_pure 2 [(28, .bool (y1 != 0)), (27, .int .i64 (y1))] (by kernel_rfl) ?_
    refine wS_end (by rfl) ?_
    refine eX_then ?_
    refine cW_cond (t := y1 != 0) (by kernel_rfl) (fun hb3 => ?_) (fun hb3 => ?_)
    ·have hm := condT hb3 hm
     refine cW_seq ?_
     refine cW_region ?_
     refine wS_pure 2 [(4, .int .i64 (y1)), (29, .int .i64 (y1))] (by kernel_rfl) ?_
     refine wS_end (by rfl) ?_
     refine eX_then ?_
     refine cW_ret ?_
     refine eX_block_ret ?_
     refine eX_then_ret ?_
     have hq : (some (Ctl.out (Sum.inr y1)) : Option (Ctl (Int) (Sum (Unit) ((Int))))) = some _ := hm
     replace hq := someE hq
     subst hq
     refine eX_outR hx1 (fun hr => ?_)
     subst hr
     refine eX_block_ret ?_
     refine eX_then_ret ?_
     refine eX_then_ret ?_
     have hq : (some y1 : Option ((Int))) = some _ := hm1
     replace hq := someE hq
     subst hq
     refine eX_ret (vs := [.int .i64 (y1)]) [.tmp 4] (by rfl) ⟨by (show lkE _ _ _ = _); kernel_rfl, trivial⟩ ?_
     exact ⟨rfl, hB⟩
    ·have hm := condF hb3 hm
     refine cW_skip ?_
     refine eX_block ?_
     refine eX_then ?_
     refine cW_region ?_
     refine wS_pure 2 [(11, .int .i64 (wr (x1 + 1))), (30, .int .i64 (wr (x1 + 1)))] (by kernel_rfl) ?_
     refine wS_end (by rfl) ?_
     have hq : (some (Ctl.next (wr (x1 + 1))) : Option (Ctl (Int) (Sum (Unit) ((Int))))) = some _ := hm
     replace hq := someE hq
     subst hq
     exact eX_next hx1 (fun hst => ⟨wr (x1 + 1), rfl, Fr.of hst (by kernel_rfl), F2, F3, hB, hZ⟩)
  ·have hm := condF hb1 hm
   refine cW_exit ?_
   refine eX_then_exit ?_
   have hq : (some (Ctl.out (Sum.inl (()))) : Option (Ctl (Int) (Sum (Unit) ((Int))))) = some _ := hm
   replace hq := someE hq
   subst hq
   refine eX_outX hx1 (fun hr2 => ?_)
   replace hr2 := hr2.symm
   subst hr2
   refine eX_block_hit ?_
   exact eX_J (fun hst => ⟨rfl, Fr.of hst (by kernel_rfl), F2, F3, hB, hZ⟩)
 ·rintro a' w3 ⟨hJ, hF2, F4, F5, hB, hZ⟩
  subst hJ
  refine Fr.goX hF2 (by kernel_rfl) ?_
  refine eX_then ?_
  refine cW_seq ?_
  refine cW_seq ?_
  refine cW_region ?_
  refine wS_pure 5 [(35, .bool (decide ((((l0).length : Int)) < (((l1).length : Int))))), (34, .int .i64 (((l1).length : Int))), (33, .slice A1 (l1).length cap1), (32, .int .i64 (((l0).length : Int))), (31, .slice A0 (l0).length cap0)] (by kernel_rfl) ?_
  refine wS_end (by rfl) ?_
  refine eX_then ?_
  refine cW_cond (t := decide ((((l0).length : Int)) < (((l1).length : Int)))) (by kernel_rfl) (fun hb4 => ?_) (fun hb4 => ?_)
  ·have hm := condT hb4 hm
   refine cW_seq ?_
   refine cW_region ?_
   refine wS_pure 1 [(4, .int .i64 ((-1)))] (by kernel_rfl) ?_
   refine wS_end (by rfl) ?_
   refine eX_then ?_
   refine cW_ret ?_
   refine eX_then_ret ?_
   have hq : (some ((-1)) : Option ((Int))) = some _ := hm
   replace hq := someE hq
   subst hq
   refine eX_ret (vs := [.int .i64 ((-1))]) [.tmp 4] (by rfl) ⟨by (show lkE _ _ _ = _); kernel_rfl, trivial⟩ ?_
   exact ⟨rfl, hB⟩
  ·have hm := condF hb4 hm
   refine cW_skip ?_
   refine eX_then ?_
   refine cW_seq ?_
   refine cW_region ?_
   refine wS_pure 1 [(4, .int .i64 (0))] (by kernel_rfl) ?_
   refine wS_end (by rfl) ?_
   refine eX_then ?_
   refine cW_ret ?_
   have hq : (some 0 : Option ((Int))) = some _ := hm
   replace hq := someE hq
   subst hq
   refine eX_ret (vs := [.int .i64 (0)]) [.tmp 4] (by rfl) ⟨by (show lkE _ _ _ = _); kernel_rfl, trivial⟩ ?_
   exact ⟨rfl, hB⟩

set_option maxRecDepth 100000 in
/-- impl.ValidWiring$1 -/
theorem c_impl_ValidWiring_1 {w0 : World} {l0 : List (Int)} {A0 : Option Addr} {cap0 : Nat} {fp0 : List Nat} {r : (Bool)} (hm : m_impl_ValidWiring_1 l0 = some r) (F0 : Sl 1 encI w0 fp0 A0 l0) :
  Calls Try.prog 60 #[.slice A0 (l0).length cap0] w0 fun e w' => e = .returned (.bool (r)) ∧ Chg [] w0 w' := by
 have L0 := F0.low
 have hB : Chg [] w0 w0 := Chg.refl _ _
 have hZ := Nat.le_refl w0.heap.size
 unfold m_impl_ValidWiring_1 at hm
 refine enterE (N := 8) Try.func60 (by rfl) Try.ntmps60 (by simp) [(0, .slice A0 (l0).length cap0)] (by rfl) (by kernel_rfl) (fun a => ?_)
 refine cW_seq ?_
 refine cW_region ?_
 refine wS_pure 1 [(2, .bool (false))] (by kernel_rfl) ?_
 refine wS_end (by rfl) ?_
 refine eX_then ?_
 refine cW_seq ?_
 refine cW_region ?_
 refine wS_pure 1 [(3, .slice A0 (l0).length cap0)] (by kernel_rfl) ?_
 obtain ⟨x1, hx1, hm⟩ := bindE hm
 refine wS_idx (d := 4) (T := 25) (A := A0) (n := (l0).length) (cap := cap0) (kd := .i64) (m := 2) (by kernel_rfl) sl25 (F0.is hx1) ?_
 refine wS_load1 (d := 5) (T := 2) (ad := (elA A0 1 (2) 0)) (v := .int .i64 (x1)) (by kernel_rfl) vt2 (Sl.cell F0 hx1 0 (by rfl)) ?_
 obtain ⟨y1, hy1, hm⟩ := bindE hm
 refine wS_calls (d := 6) (f := 57) (vs := [.int .i64 (x1), .int .i64 (0), .int .i64 (1000)]) (by kernel_rfl) ent57 (c_impl_in hy1) ?_
 rintro _ w1 ⟨rfl, hc1⟩
 replace F0 := F0.chg hc1 Dj.nil
 replace hB := hB.inS hc1 inNil
 replace hZ := Nat.le_trans hZ hc1.size
 refine ⟨.bool (y1), rfl, ?_⟩
 refine wS_pure 2 [(2, .bool (!y1)), (7, .bool (!y1))] (by kernel_rfl) ?_
 refine wS_end (by rfl) ?_
 refine eX_then ?_
 refine cW_ret ?_
 have hq : (some (!y1) : Option ((Bool))) = some _ := hm
 replace hq := someE hq
 subst hq
 refine eX_ret (vs := [.bool (!y1)]) [.tmp 2] (by rfl) ⟨by (show lkE _ _ _ = _); kernel_rfl, trivial⟩ ?_
 exact ⟨rfl, hB⟩

set_option maxRecDepth 100000 in
/-- impl.ValidWiring$2 -/
theorem c_impl_ValidWiring_2 {w0 : World} {p0 : Int} {r : (Bool)} (hm : m_impl_ValidWiring_2 p0 = some r)  :
  Calls Try.prog 62 #[.int .i64 (p0)] w0 fun e w' => e = .returned (.bool (r)) ∧ Chg [] w0 w' := by
 have hB : Chg [] w0 w0 := Chg.refl _ _
 have hZ := Nat.le_refl w0.heap.size
 unfold m_impl_ValidWiring_2 at hm
 refine enterE (N := 6) Try.func62 (by rfl) Try.ntmps62 (by simp) [(0, .int .i64 (p0))] (by rfl) (by kernel_rfl) (fun a => ?_)
 refine cW_seq ?_
 refine cW_region ?_
 refine wS_pure 1 [(2, .bool (false))] (by kernel_rfl) ?_
 refine wS_end (by rfl) ?_
 refine eX_then ?_
 refine cW_seq ?_
 refine cW_region ?_
 refine wS_pure 1 [(3, .int .i64 (p0))] (by kernel_rfl) ?_
 obtain ⟨y1, hy1, hm⟩ := bindE hm
 refine wS_calls (d := 4) (f := 57) (vs := [.int .i64 (p0), .int .i64 ((-1)), .int .i64 (1)]) (by kernel_rfl) ent57 (c_impl_in hy1) ?_
 rintro _ w1 ⟨rfl, hc1⟩
 replace hB := hB.inS hc1 inNil
 replace hZ := Nat.le_trans hZ hc1.size
 refine ⟨.bool (y1), rfl, ?_⟩
 refine wS_pure 2 [(2, .bool (!y1)), (5, .bool (!y1))] (by kernel_rfl) ?_
 refine wS_end (by rfl) ?_
 refine eX_then ?_
 refine cW_ret ?_
 have hq : (some (!y1) : Option ((Bool))) = some _ := hm
 replace hq := someE hq
 subst hq
 refine eX_ret (vs := [.bool (!y1)]) [.tmp 2] (by rfl) ⟨by (show lkE _ _ _ = _); kernel_rfl, trivial⟩ ?_
 exact ⟨rfl, hB⟩

set_option maxRecDepth 100000 in
/-- impl.Wiring).pairsOk -/
theorem c_impl_Wiring_pairsOk_bimplWiring {w0 : World} {q0_0 : Int} {l0_1 : List (List (Int))} {A0_1 : Option Addr} {cap0_1 : Nat} {fp0_1 : List Nat} {l0_2 : List (List (Int))} {A0_2 : Option Addr} {cap0_2 : Nat} {fp0_2 : List Nat} {l0_3 : List (Int)} {A0_3 : Option Addr} {cap0_3 : Nat} {fp0_3 : List Nat} {b0 : Nat} {l1 : List (List (Int))} {A1 : Option Addr} {cap1 : Nat} {fp1 : List Nat} {p2 : Int} {r : (Bool)} (hm : m_impl_Wiring_pairsOk_bimplWiring q0_0 l0_1 l0_2 l0_3 l1 p2 = some r) (F0_1 : SlR 1 encI w0 fp0_1 A0_1 l0_1) (F0_2 : SlR 1 encI w0 fp0_2 A0_2 l0_2) (F0_3 : Sl 1 encI w0 fp0_3 A0_3 l0_3) (F0 : Cl w0 b0 27 [.int .i64 (q0_0), .slice A0_1 (l0_1).length cap0_1, .slice A0_2 (l0_2).length cap0_2, .slice A0_3 (l0_3).length cap0_3]) (F1 : SlR 1 encI w0 fp1 A1 l1) :
  Calls Try.prog 58 #[.pointer (some ⟨b0, 0, none⟩), .slice A1 (l1).length cap1, .int .i64 (p2)] w0 fun e w' => e = .returned (.bool (r)) ∧ Chg [] w0 w' := by
 have L0_1 := F0_1.low
 have L0_2 := F0_2.low
 have L0_3 := F0_3.low
 have L0 := lt1 F0.lt
 have L1 := F1.low
 have hB : Chg [] w0 w0 := Chg.refl _ _
 have hZ := Nat.le_refl w0.heap.size
 unfold m_impl_Wiring_pairsOk_bimplWiring at hm
 refine enterE (N := 63) Try.func58 (by rfl) Try.ntmps58 (by simp) [(0, .pointer (some ⟨b0, 0, none⟩)), (1, .slice A1 (l1).length cap1), (2, .int .i64 (p2))] (by rfl) (by kernel_rfl) (fun a => ?_)
 refine cW_seq ?_
 refine cW_region ?_
 refine wS_pure 1 [(6, .bool (false))] (by kernel_rfl) ?_
 refine wS_end (by rfl) ?_
 refine eX_then ?_
 refine cW_seq ?_
 refine cW_seq ?_
 refine cW_region ?_
 refine wS_pure 3 [(11, .int .i64 (0)), (10, .int .i64 (((l1).length : Int))), (9, .slice A1 (l1).length cap1)] (by kernel_rfl) ?_
 refine wS_end (by rfl) ?_
 refine eX_then ?_
 obtain ⟨r1, hr1, hm⟩ := bindE hm
 have hm1 := hm
 refine cW_cut (fun a' w' => Sum.inl (()) = r1 ∧ Fr 63 [(1, .slice A1 (l1).length cap1)] a' ∧ SlR 1 encI w' fp1 A1 l1 ∧ Chg [] w0 w' ∧ w0.heap.size ≤ w'.heap.size) ?_ ?_
 ·refine cW_block ?_
  refine cW_loop _ (fun (s1 : Int) a' w' => ∃ x1 : Int, x1 = s1 ∧ Fr 63 [(0, .pointer (some ⟨b0, 0, none⟩)), (1, .slice A1 (l1).length cap1), (2, .int .i64 (p2)), (9, .slice A1 (l1).length cap1), (10, .int .i64 (((l1).length : Int))), (11, .int .i64 (x1))] a' ∧ SlR 1 encI w' fp0_1 A0_1 l0_1 ∧ SlR 1 encI w' fp0_2 A0_2 l0_2 ∧ Sl 1 encI w' fp0_3 A0_3 l0_3 ∧ Cl w' b0 27 [.int .i64 (q0_0), .slice A0_1 (l0_1).length cap0_1, .slice A0_2 (l0_2).length cap0_2, .slice A0_3 (l0_3).length cap0_3] ∧ SlR 1 encI w' fp1 A1 l1 ∧ Chg [] w0 w' ∧ w0.heap.size ≤ w'.heap.size) hr1 (fun hst => ⟨0, rfl, Fr.of hst (by kernel_rfl), F0_1, F0_2, F0_3, F0, F1, hB, hZ⟩) ?_
  rintro _ c1 a' w1 ⟨x1, rfl, hF1, F2, F3, F4, F5, F6, hB, hZ⟩ hx1
  refine Fr.goOn hF1 (by kernel_rfl) ?_
  have hm := hx1
  unfold m_impl_Wiring_pairsOk_bimplWiring_s1 at hm
  refine cW_seq ?_
  refine cW_region ?_
  refine wS_pure 1 [(12, .bool (decide (x1 < (((l1).length : Int)))))] (by kernel_rfl) ?_
  refine wS_end (by rfl) ?_
  refine eX_then ?_
  refine cW_seq ?_
  refine cW_cond (t := decide (x1 < (((l1).length : Int)))) (by kernel_rfl) (fun hb1 => ?_) (fun hb1 => ?_)
  ·have hm := condT hb1 hm
   refine cW_skip ?_
   refine eX_then ?_
   refine cW_seq ?_
   refine cW_block ?_
   refine cW_seq ?_
   refine cW_region ?_
   refine wS_pure 1 [(13, .int .i64 (x1))] (by kernel_rfl) ?_
   obtain ⟨x2, hx2, hm⟩ := bindE hm
   refine wS_idx (d := 14) (T := 24) (A := A1) (n := (l1).length) (cap := cap1) (kd := .i64) (m := x1) (by kernel_rfl) sl24 (F6.is hx2) ?_
   obtain ⟨A2, cap2, hc1, F7, K1⟩ := SlR.row F6 hx2
   refine wS_load1 (d := 15) (T := 25) (ad := (elA A1 1 (x1) 0)) (v := .slice A2 (x2).length cap2) (by kernel_rfl) vt25 hc1 ?_
   refine wS_pure 2 [(8, .slice A2 (x2).length cap2), (7, .int .i64 (x1))] (by kernel_rfl) ?_
   refine wS_end (by rfl) ?_
   refine eX_then ?_
   refine cW_seq ?_
   refine cW_drawnTail [] 39 (by kernel_rfl) (by kernel_rfl) (fun w2 hc2 => ?_)
   replace F2 := F2.chg hc2 Dj.nil
   replace F3 := F3.chg hc2 Dj.nil
   replace F4 := F4.chg hc2 Dj.nil
   replace F5 := F5.chg hc2 notNil
   replace F6 := F6.chg hc2 Dj.nil
   replace F7 := F7.chg hc2 Dj.nil
   replace hB := hB.inS hc2 inNil
   replace hZ := Nat.le_trans hZ hc2.size
   have hS := Chg.refl [] w2
   have Z1 := F2
   have Z2 := F3
   have Z3 := F4
   have Z4 := F5
   have Z5 := F6
   have Z6 := F7
   refine wH_take [0, 1, 2, 3, 4] [4, 3, 2, 1, 0] [(20, .bool ((((x2).length : Int)) != p2)), (19, .bool ((((x2).length : Int)) != p2)), (18, .int .i64 (p2)), (17, .int .i64 (((x2).length : Int))), (16, .slice A2 (x2).length cap2)] (by kernel_rfl) (qT (qT (qB (qT (qL (qB (qT (qT qZ)))))))) (by kernel_rfl) ?_
   refine wH_bool ((((x2).length : Int)) != p2) (fun hb2 => ?_) (fun hb2 => ?_)
   ·have hm := condT hb2 hm
    rewrite [hb2]
    refine wH_take [5, 6, 7, 8, 9, 10, 11, 12, 13, 14, 15, 16, 17, 18, 19, 20, 21, 22, 23, 24, 25, 26, 27, 28, 29, 30, 31, 32, 33, 34, 35, 36, 37, 38] [38, 37, 36, 35, 34, 33, 32, 31, 30, 29, 28, 27, 26, 25, 24, 23, 22, 21, 20, 19, 18, 17, 16, 15, 14, 13, 12, 11, 10, 9, 8, 7, 6, 5, 4, 3, 2, 1, 0] [(54, undef), (53, undef), (52, undef), (51, undef), (50, undef), (49, undef), (48, undef), (47, undef), (46, undef), (45, .bool (true)), (44, .bool (true)), (43, undef), (42, undef), (41, undef), (40, undef), (39, undef), (38, undef), (37, undef), (36, undef), (35, .bool (true)), (34, .bool (true)), (33, undef), (32, undef), (31, undef), (30, undef), (29, undef), (28, undef), (27, undef), (26, .bool (true)), (25, .bool (true)), (24, undef), (23, undef), (22, undef), (21, undef)] (by kernel_rfl) (qT (qT (qB (qT (qL (qB (qT (qT qZ)))))))) (by kernel_rfl) ?_
    refine wH_done (by kernel_rfl) ?_
    refine eX_tail ?_
    refine wS_pure 4 [(58, .bool (true)), (57, undef), (56, undef), (55, undef)] (by kernel_rfl) ?_
    refine wS_end (by rfl) ?_
    refine eX_then ?_
    refine cW_prune [(0, .pointer (some ⟨b0, 0, none⟩)), (1, .slice A1 (l1).length cap1), (2, .int .i64 (p2)), (9, .slice A1 (l1).length cap1), (10, .int .i64 (((l1).length : Int))), (11, .int .i64 (x1)), (58, .bool (true))] (by kernel_rfl) (by kernel_rfl) (fun a1 => ?_)
    refine cW_cond_t (by kernel_rfl) ?_
    refine cW_seq ?_
    refine cW_region ?_
    refine wS_pure 1 [(6, .bool (false))] (by kernel_rfl) ?_
    refine wS_end (by rfl) ?_
    refine eX_then ?_
    refine cW_ret ?_
    refine eX_block_ret ?_
    refine eX_then_ret ?_
    have hq : (some (Ctl.out (Sum.inr false)) : Option (Ctl (Int) (Sum (Unit) ((Bool))))) = some _ := hm
    replace hq := someE hq
    subst hq
    refine eX_outR hx1 (fun hr => ?_)
    subst hr
    refine eX_block_ret ?_
    refine eX_then_ret ?_
    refine eX_then_ret ?_
    have hq : (some false : Option ((Bool))) = some _ := hm1
    replace hq := someE hq
    subst hq
    refine eX_ret (vs := [.bool (false)]) [.tmp 6] (by rfl) ⟨by (show lkE _ _ _ = _); kernel_rfl, trivial⟩ ?_
    exact ⟨rfl, hB⟩
   ·have hm := condF hb2 hm
    rewrite [hb2]
    refine wH_take [5] [5, 4, 3, 2, 1, 0] [(21, .slice A2 (x2).length cap2)] (by kernel_rfl) (qT (qT (qB (qT (qL (qB (qT (qT qZ)))))))) (by kernel_rfl) ?_
    obtain ⟨x3, hx3, hm⟩ := bindE hm
    refine wH_idx (i := 6) (d := 22) (T := 25) (A := A2) (n := (x2).length) (cap := cap2) (kd := .i64) (m := 0) (by kernel_rfl) (qT (qT (qB (qT (qL (qB (qT (qT qZ)))))))) (by kernel_rfl) (by kernel_rfl) sl25 (F7.is hx3) ?_
    refine wH_load1 (i := 7) (d := 23) (T := 2) (ad := (elA A2 1 (0) 0)) (v := .int .i64 (x3)) (by kernel_rfl) (qT (qT (qB (qT (qL (qB (qT (qT qZ)))))))) (by kernel_rfl) (by kernel_rfl) vt2 (fun W hW => Sl.cell (Z6.chg hW Dj.nil) hx3 0 (by rfl)) ?_
    refine wH_take [8, 9, 10] [10, 9, 8, 7, 6, 5, 4, 3, 2, 1, 0] [(26, .bool (decide (x3 < 0))), (25, .bool (decide (x3 < 0))), (24, .bool (decide (x3 < 0)))] (by kernel_rfl) (qT (qT (qB (qT (qL (qB (qT (qT qZ)))))))) (by kernel_rfl) ?_
    refine wH_bool (decide (x3 < 0)) (fun hb3 => ?_) (fun hb3 => ?_)
    ·have hm := condT hb3 hm
     rewrite [hb3]
     refine wH_take [11, 12, 13, 14, 15, 16, 17, 18, 19, 20, 21, 22, 23, 24, 25, 26, 27, 28, 29, 30, 31, 32, 33, 34, 35, 36, 37, 38] [38, 37, 36, 35, 34, 33, 32, 31, 30, 29, 28, 27, 26, 25, 24, 23, 22, 21, 20, 19, 18, 17, 16, 15, 14, 13, 12, 11, 10, 9, 8, 7, 6, 5, 4, 3, 2, 1, 0] [(54, undef), (53, undef), (52, undef), (51, undef), (50, undef), (49, undef), (48, undef), (47, undef), (46, undef), (45, .bool (true)), (44, .bool (true)), (43, undef), (42, undef), (41, undef), (40, undef), (39, undef), (38, undef), (37, undef), (36, undef), (35, .bool (true)), (34, .bool (true)), (33, undef), (32, undef), (31, undef), (30, undef), (29, undef), (28, undef), (27, undef)] (by kernel_rfl) (qT (qT (qB (qT (qL (qB (qT (qT qZ)))))))) (by kernel_rfl) ?_
     refine wH_done (by kernel_rfl) ?_
     refine eX_tail ?_
     refine wS_pure 4 [(58, .bool (true)), (57, undef), (56, undef), (55, undef)] (by kernel_rfl) ?_
     refine wS_end (by rfl) ?_
     refine eX_then ?_
     refine cW_prune [(0, .pointer (some ⟨b0, 0, none⟩)), (1, .slice A1 (l1).length cap1), (2, .int .i64 (p2)), (9, .slice A1 (l1).length cap1), (10, .int .i64 (((l1).length : Int))), (11, .int .i64 (x1)), (58, .bool (true))] (by kernel_rfl) (by kernel_rfl) (fun a2 => ?_)
     refine cW_cond_t (by kernel_rfl) ?_
     refine cW_seq ?_
     refine cW_region ?_
     refine wS_pure 1 [(6, .bool (false))] (by kernel_rfl) ?_
     refine wS_end (by rfl) ?_
     refine eX_then ?_
     refine cW_ret ?_
     refine eX_block_ret ?_
     refine eX_then_ret ?_
     have hq : (some (Ctl.out (Sum.inr false)) : Option (Ctl (Int) (Sum (Unit) ((Bool))))) = some _ := hm
     replace hq := someE hq
     subst hq
     refine eX_outR hx1 (fun hr => ?_)
     subst hr
     refine eX_block_ret ?_
     refine eX_then_ret ?_
     refine eX_then_ret ?_
     have hq : (some false : Option ((Bool))) = some _ := hm1
     replace hq := someE hq
     subst hq
     refine eX_ret (vs := [.bool (false)]) [.tmp 6] (by rfl) ⟨by (show lkE _ _ _ = _); kernel_rfl, trivial⟩ ?_
     exact ⟨rfl, hB⟩
    ·have hm := condF hb3 hm
     rewrite [hb3]
     refine wH_take [11] [11, 10, 9, 8, 7, 6, 5, 4, 3, 2, 1, 0] [(27, .slice A2 (x2).length cap2)] (by kernel_rfl) (qT (qT (qB (qT (qL (qB (qT (qT qZ)))))))) (by kernel_rfl) ?_
     obtain ⟨x4, hx4, hm⟩ := bindE hm
     refine wH_idx (i := 12) (d := 28) (T := 25) (A := A2) (n := (x2).length) (cap := cap2) (kd := .i64) (m := 0) (by kernel_rfl) (qT (qT (qB (qT (qL (qB (qT (qT qZ)))))))) (by kernel_rfl) (by kernel_rfl) sl25 (F7.is hx4) ?_
     refine wH_load1 (i := 13) (d := 29) (T := 2) (ad := (elA A2 1 (0) 0)) (v := .int .i64 (x4)) (by kernel_rfl) (qT (qT (qB (qT (qL (qB (qT (qT qZ)))))))) (by kernel_rfl) (by kernel_rfl) vt2 (fun W hW => Sl.cell (Z6.chg hW Dj.nil) hx4 0 (by rfl)) ?_
     refine wH_take [14] [14, 13, 12, 11, 10, 9, 8, 7, 6, 5, 4, 3, 2, 1, 0] [(30, .slice A2 (x2).length cap2)] (by kernel_rfl) (qT (qT (qB (qT (qL (qB (qT (qT qZ)))))))) (by kernel_rfl) ?_
     obtain ⟨x5, hx5, hm⟩ := bindE hm
     refine wH_idx (i := 15) (d := 31) (T := 25) (A := A2) (n := (x2).length) (cap := cap2) (kd := .i64) (m := 1) (by kernel_rfl) (qT (qT (qB (qT (qL (qB (qT (qT qZ)))))))) (by kernel_rfl) (by kernel_rfl) sl25 (F7.is hx5) ?_
     refine wH_load1 (i := 16) (d := 32) (T := 2) (ad := (elA A2 1 (1) 0)) (v := .int .i64 (x5)) (by kernel_rfl) (qT (qT (qB (qT (qL (qB (qT (qT qZ)))))))) (by kernel_rfl) (by kernel_rfl) vt2 (fun W hW => Sl.cell (Z6.chg hW Dj.nil) hx5 0 (by rfl)) ?_
     refine wH_take [17, 18, 19] [19, 18, 17, 16, 15, 14, 13, 12, 11, 10, 9, 8, 7, 6, 5, 4, 3, 2, 1, 0] [(35, .bool (decide (x4 ≥ x5))), (34, .bool (decide (x4 ≥ x5))), (33, .bool (decide (x4 ≥ x5)))] (by kernel_rfl) (qT (qT (qB (qT (qL (qB (qT (qT qZ)))))))) (by kernel_rfl) ?_
     refine wH_bool (decide (x4 ≥ x5)) (fun hb4 => ?_) (fun hb4 => ?_)
     ·have hm := condT hb4 hm
      rewrite [hb4]
      refine wH_take [20, 21, 22, 23, 24, 25, 26, 27, 28, 29, 30, 31, 32, 33, 34, 35, 36, 37, 38] [38, 37, 36, 35, 34, 33, 32, 31, 30, 29, 28, 27, 26, 25, 24, 23, 22, 21, 20, 19, 18, 17, 16, 15, 14, 13, 12, 11, 10, 9, 8, 7, 6, 5, 4, 3, 2, 1, 0] [(54, undef), (53, undef), (52, undef), (51, undef), (50, undef), (49, undef), (48, undef), (47, undef), (46, undef), (45, .bool (true)), (44, .bool (true)), (43, undef), (42, undef), (41, undef), (40, undef), (39, undef), (38, undef), (37, undef), (36, undef)] (by kernel_rfl) (qT (qT (qB (qT (qL (qB (qT (qT qZ)))))))) (by kernel_rfl) ?_
      refine wH_done (by kernel_rfl) ?_
      refine eX_tail ?_
      refine wS_pure 4 [(58, .bool (true)), (57, undef), (56, undef), (55, undef)] (by kernel_rfl) ?_
      refine wS_end (by rfl) ?_
      refine eX_then ?_
      refine cW_prune [(0, .pointer (some ⟨b0, 0, none⟩)), (1, .slice A1 (l1).length cap1), (2, .int .i64 (p2)), (9, .slice A1 (l1).length cap1), (10, .int .i64 (((l1).length : Int))), (11, .int .i64 (x1)), (58, .bool (true))] (by kernel_rfl) (by kernel_rfl) (fun a3 => ?_)
      refine cW_cond_t (by kernel_rfl) ?_
      refine cW_seq ?_
      refine cW_region ?_
      refine wS_pure 1 [(6, .bool (false))] (by kernel_rfl) ?_
      refine wS_end (by rfl) ?_
      refine eX_then ?_
      refine cW_ret ?_
      refine eX_block_ret ?_
      refine eX_then_ret ?_
      have hq : (some (Ctl.out (Sum.inr false)) : Option (Ctl (Int) (Sum (Unit) ((Bool))))) = some _ := hm
      replace hq := someE hq
      subst hq
      refine eX_outR hx1 (fun hr => ?_)
      subst hr
      refine eX_block_ret ?_
      refine eX_then_ret ?_
      refine eX_then_ret ?_
      have hq : (some false : Option ((Bool))) = some _ := hm1
      replace hq := someE hq
      subst hq
      refine eX_ret (vs := [.bool (false)]) [.tmp 6] (by rfl) ⟨by (show lkE _ _ _ = _); kernel_rfl, trivial⟩ ?_
      exact ⟨rfl, hB⟩
     ·have hm := condF hb4 hm
      rewrite [hb4]
      refine wH_take [20] [20, 19, 18, 17, 16, 15, 14, 13, 12, 11, 10, 9, 8, 7, 6, 5, 4, 3, 2, 1, 0] [(36, .slice A2 (x2).length cap2)] (by kernel_rfl) (qT (qT (qB (qT (qL (qB (qT (qT qZ)))))))) (by kernel_rfl) ?_
      obtain ⟨x6, hx6, hm⟩ := bindE hm
      refine wH_idx (i := 21) (d := 37) (T := 25) (A := A2) (n := (x2).length) (cap := cap2) (kd := .i64) (m := 1) (by kernel_rfl) (qT (qT (qB (qT (qL (qB (qT (qT qZ)))))))) (by kernel_rfl) (by kernel_rfl) sl25 (F7.is hx6) ?_
      refine wH_load1 (i := 22) (d := 38) (T := 2) (ad := (elA A2 1 (1) 0)) (v := .int .i64 (x6)) (by kernel_rfl) (qT (qT (qB (qT (qL (qB (qT (qT qZ)))))))) (by kernel_rfl) (by kernel_rfl) vt2 (fun W hW => Sl.cell (Z6.chg hW Dj.nil) hx6 0 (by rfl)) ?_
      refine wH_take [23, 24, 25] [25, 24, 23, 22, 21, 20, 19, 18, 17, 16, 15, 14, 13, 12, 11, 10, 9, 8, 7, 6, 5, 4, 3, 2, 1, 0] [(41, .pointer (some ⟨b0, 0, none⟩)), (40, .pointer (some ⟨b0, 0, none⟩)), (39, .pointer (some ⟨b0, 0, none⟩))] (by kernel_rfl) (qT (qT (qB (qT (qL (qB (qT (qT qZ)))))))) (by kernel_rfl) ?_
      refine wH_load1 (i := 26) (d := 42) (T := 2) (ad := ⟨b0, 0, none⟩) (v := .int .i64 (q0_0)) (by kernel_rfl) (qT (qT (qB (qT (qL (qB (qT (qT qZ)))))))) (by kernel_rfl) (by kernel_rfl) vt2 (fun W hW => (Z4.chg hW notNil).cell 0) ?_
      refine wH_take [27, 28, 29] [29, 28, 27, 26, 25, 24, 23, 22, 21, 20, 19, 18, 17, 16, 15, 14, 13, 12, 11, 10, 9, 8, 7, 6, 5, 4, 3, 2, 1, 0] [(45, .bool (decide (x6 ≥ q0_0))), (44, .bool (decide (x6 ≥ q0_0))), (43, .bool (decide (x6 ≥ q0_0)))] (by kernel_rfl) (qT (qT (qB (qT (qL (qB (qT (qT qZ)))))))) (by kernel_rfl) ?_
      refine wH_bool (decide (x6 ≥ q0_0)) (fun hb5 => ?_) (fun hb5 => ?_)
      ·have hm := condT hb5 hm
       rewrite [hb5]
       refine wH_take [30, 31, 32, 33, 34, 35, 36, 37, 38] [38, 37, 36, 35, 34, 33, 32, 31, 30, 29, 28, 27, 26, 25, 24, 23, 22, 21, 20, 19, 18, 17, 16, 15, 14, 13, 12, 11, 10, 9, 8, 7, 6, 5, 4, 3, 2, 1, 0] [(54, undef), (53, undef), (52, undef), (51, undef), (50, undef), (49, undef), (48, undef), (47, undef), (46, undef)] (by kernel_rfl) (qT (qT (qB (qT (qL (qB (qT (qT qZ)))))))) (by kernel_rfl) ?_
       refine wH_done (by kernel_rfl) ?_
       refine eX_tail ?_
       refine wS_pure 4 [(58, .bool (true)), (57, undef), (56, undef), (55, undef)] (by kernel_rfl) ?_
       refine wS_end (by rfl) ?_
       refine eX_then ?_
       refine cW_prune [(0, .pointer (some ⟨b0, 0, none⟩)), (1, .slice A1 (l1).length cap1), (2, .int .i64 (p2)), (9, .slice A1 (l1).length cap1), (10, .int .i64 (((l1).length : Int))), (11, .int .i64 (x1)), (58, .bool (true))] (by kernel_rfl) (by kernel_rfl) (fun a4 => ?_)
       refine cW_cond_t (by kernel_rfl) ?_
       refine cW_seq ?_
       refine cW_region ?_
       refine wS_pure 1 [(6, .bool (false))] (by kernel_rfl) ?_
       refine wS_end (by rfl) ?_
       refine eX_then ?_
       refine cW_ret ?_
       refine eX_block_ret ?_
       refine eX_then_ret ?_
       have hq : (some (Ctl.out (Sum.inr false)) : Option (Ctl (Int) (Sum (Unit) ((Bool))))) = some _ := hm
       replace hq := someE hq
       subst hq
       refine eX_outR hx1 (fun hr => ?_)
       subst hr
       refine eX_block_ret ?_
       refine eX_then_ret ?_
       refine eX_then_ret ?_
       have hq : (some false : Option ((Bool))) = some _ := hm1
       replace hq := someE hq
       subst hq
       refine eX_ret (vs := [.bool (false)]) [.tmp 6] (by rfl) ⟨by (show lkE _ _ _ = _); kernel_rfl, trivial⟩ ?_
       exact ⟨rfl, hB⟩
      ·have hm := condF hb5 hm
       rewrite [hb5]
       refine wH_take [30, 31, 32] [32, 31, 30, 29, 28, 27, 26, 25, 24, 23, 22, 21, 20, 19, 18, 17, 16, 15, 14, 13, 12, 11, 10, 9, 8, 7, 6, 5, 4, 3, 2, 1, 0] [(48, .bool (decide (x1 > 0))), (47, .bool (decide (x1 > 0))), (46, .int .i64 (x1))] (by kernel_rfl) (qT (qT (qB (qT (qL (qB (qT (qT qZ)))))))) (by kernel_rfl) ?_
       refine wH_bool (decide (x1 > 0)) (fun hb6 => ?_) (fun hb6 => ?_)
       ·have hm := condT hb6 hm
        rewrite [hb6]
        refine wH_take [33, 34, 35] [35, 34, 33, 32, 31, 30, 29, 28, 27, 26, 25, 24, 23, 22, 21, 20, 19, 18, 17, 16, 15, 14, 13, 12, 11, 10, 9, 8, 7, 6, 5, 4, 3, 2, 1, 0] [(51, .int .i64 (wr (x1 - 1))), (50, .int .i64 (x1)), (49, .slice A1 (l1).length cap1)] (by kernel_rfl) (qT (qT (qB (qT (qL (qB (qT (qT qZ)))))))) (by kernel_rfl) ?_
        obtain ⟨x7, hx7, hm⟩ := bindE hm
        refine wH_idx (i := 36) (d := 52) (T := 24) (A := A1) (n := (l1).length) (cap := cap1) (kd := .i64) (m := wr (x1 - 1)) (by kernel_rfl) (qT (qT (qB (qT (qL (qB (qT (qT qZ)))))))) (by kernel_rfl) (by kernel_rfl) sl24 (F6.is hx7) ?_
        obtain ⟨A3, cap3, hc3, F8, K2⟩ := SlR.row Z5 hx7
        refine wH_load1 (i := 37) (d := 53) (T := 25) (ad := (elA A1 1 (wr (x1 - 1)) 0)) (v := .slice A3 (x7).length cap3) (by kernel_rfl) (qT (qT (qB (qT (qL (qB (qT (qT qZ)))))))) (by kernel_rfl) (by kernel_rfl) vt25 (fun W hW => hW.keep hc3) ?_
        refine wH_take [38] [38, 37, 36, 35, 34, 33, 32, 31, 30, 29, 28, 27, 26, 25, 24, 23, 22, 21, 20, 19, 18, 17, 16, 15, 14, 13, 12, 11, 10, 9, 8, 7, 6, 5, 4, 3, 2, 1, 0] [(54, .slice A2 (x2).length cap2)] (by kernel_rfl) (qT (qT (qB (qT (qL (qB (qT (qT qZ)))))))) (by kernel_rfl) ?_
        refine wH_done (by kernel_rfl) ?_
        refine eX_tail ?_
        obtain ⟨y1, hy1, hm⟩ := bindE hm
        refine wS_calls (d := 55) (f := 100) (vs := [.slice A3 (x7).length cap3, .slice A2 (x2).length cap2]) (by kernel_rfl) ent100 (c_slices_Compare_int64_int64 hy1 F8 F7) ?_
        rintro _ w3 ⟨rfl, hc4⟩
        replace F2 := F2.chg hc4 Dj.nil
        replace F3 := F3.chg hc4 Dj.nil
        replace F4 := F4.chg hc4 Dj.nil
        replace F5 := F5.chg hc4 notNil
        replace F6 := F6.chg hc4 Dj.nil
        replace F7 := F7.chg hc4 Dj.nil
        replace F8 := F8.chg hc4 Dj.nil
        replace hB := hB.inS hc4 inNil
        replace hZ := Nat.le_trans hZ hc4.size
        refine ⟨.int .i64 (y1), rfl, ?_⟩
        refine wS_pure 3 [(58, .bool (decide (y1 ≥ 0))), (57, .bool (decide (y1 ≥ 0))), (56, .bool (decide (y1 ≥ 0)))] (by kernel_rfl) ?_
        refine wS_end (by rfl) ?_
        refine eX_then ?_
        refine cW_prune [(0, .pointer (some ⟨b0, 0, none⟩)), (1, .slice A1 (l1).length cap1), (2, .int .i64 (p2)), (9, .slice A1 (l1).length cap1), (10, .int .i64 (((l1).length : Int))), (11, .int .i64 (x1)), (58, .bool (decide (y1 ≥ 0)))] (by kernel_rfl) (by kernel_rfl) (fun a5 => ?_)
        refine cW_cond (t := decide (y1 ≥ 0)) (by kernel_rfl) (fun hb7 => ?_) (fun hb7 => ?_)
        ·have hm := condT hb7 hm
         refine cW_seq ?_
         refine cW_region ?_
         refine wS_pure 1 [(6, .bool (false))] (by kernel_rfl) ?_
         refine wS_end (by rfl) ?_
         refine eX_then ?_
         refine cW_ret ?_
         refine eX_block_ret ?_
         refine eX_then_ret ?_
         have hq : (some (Ctl.out (Sum.inr false)) : Option (Ctl (Int) (Sum (Unit) ((Bool))))) = some _ := hm
         replace hq := someE hq
         subst hq
         refine eX_outR hx1 (fun hr => ?_)
         subst hr
         refine eX_block_ret ?_
         refine eX_then_ret ?_
         refine eX_then_ret ?_
         have hq : (some false : Option ((Bool))) = some _ := hm1
         replace hq := someE hq
         subst hq
         refine eX_ret (vs := [.bool (false)]) [.tmp 6] (by rfl) ⟨by (show lkE _ _ _ = _); kernel_rfl, trivial⟩ ?_
         exact ⟨rfl, hB⟩
        ·have hm := condF hb7 hm
         refine cW_skip ?_
         refine eX_block ?_
         refine eX_then ?_
         refine cW_region ?_
         refine wS_pure 2 [(11, .int .i64 (wr (x1 + 1))), (59, .int .i64 (wr (x1 + 1)))] (by kernel_rfl) ?_
         refine wS_end (by rfl) ?_
         have hq : (some (Ctl.next (wr (x1 + 1))) : Option (Ctl (Int) (Sum (Unit) ((Bool))))) = some _ := hm
         replace hq := someE hq
         subst hq
         exact eX_next hx1 (fun hst => ⟨wr (x1 + 1), rfl, Fr.of hst (by kernel_rfl), F2, F3, F4, F5, F6, hB, hZ⟩)
       ·have hm := condF hb6 hm
        rewrite [hb6]
        refine wH_take [33, 34, 35, 36, 37, 38] [38, 37, 36, 35, 34, 33, 32, 31, 30, 29, 28, 27, 26, 25, 24, 23, 22, 21, 20, 19, 18, 17, 16, 15, 14, 13, 12, 11, 10, 9, 8, 7, 6, 5, 4, 3, 2, 1, 0] [(54, undef), (53, undef), (52, undef), (51, undef), (50, undef), (49, undef)] (by kernel_rfl) (qT (qT (qB (qT (qL (qB (qT (qT qZ)))))))) (by kernel_rfl) ?_
        refine wH_done (by kernel_rfl) ?_
        refine eX_tail ?_
        refine wS_pure 4 [(58, .bool (false)), (57, .bool (false)), (56, undef), (55, undef)] (by kernel_rfl) ?_
        refine wS_end (by rfl) ?_
        refine eX_then ?_
        refine cW_prune [(0, .pointer (some ⟨b0, 0, none⟩)), (1, .slice A1 (l1).length cap1), (2, .int .i64 (p2)), (9, .slice A1 (l1).length cap1), (10, .int .i64 (((l1).length : Int))), (11, .int .i64 (x1)), (58, .bool (false))] (by kernel_rfl) (by kernel_rfl) (fun a6 => ?_)
        refine cW_cond_f (by kernel_rfl) ?_
        refine cW_skip ?_
        refine eX_block ?_
        refine eX_then ?_
        refine cW_region ?_
        refine wS_pure 2 [(11, .int .i64 (wr (x1 + 1))), (59, .int .i64 (wr (x1 + 1)))] (by kernel_rfl) ?_
        refine wS_end (by rfl) ?_
        have hq : (some (Ctl.next (wr (x1 + 1))) : Option (Ctl (Int) (Sum (Unit) ((Bool))))) = some _ := hm
        replace hq := someE hq
        subst hq
        exact eX_next hx1 (fun hst => ⟨wr (x1 + 1), rfl, Fr.of hst (by kernel_rfl), F2, F3, F4, F5, F6, hB, hZ⟩)
  ·have hm := condF hb1 hm
   refine cW_exit ?_
   refine eX_then_exit ?_
   have hq : (some (Ctl.out (Sum.inl (()))) : Option (Ctl (Int) (Sum (Unit) ((Bool))))) = some _ := hm
   replace hq := someE hq
   subst hq
   refine eX_outX hx1 (fun hr2 => ?_)
   replace hr2 := hr2.symm
   subst hr2
   refine eX_block_hit ?_
   exact eX_J (fun hst => ⟨rfl, Fr.of hst (by kernel_rfl), F6, hB, hZ⟩)
 ·rintro a' w4 ⟨hJ, hF2, F9, hB, hZ⟩
  subst hJ
  refine Fr.goX hF2 (by kernel_rfl) ?_
  refine eX_then ?_
  refine cW_seq ?_
  refine cW_region ?_
  refine wS_pure 4 [(6, .bool (decide ((((l1).length : Int)) ≤ 30))), (62, .bool (decide ((((l1).length : Int)) ≤ 30))), (61, .int .i64 (((l1).length : Int))), (60, .slice A1 (l1).length cap1)] (by kernel_rfl) ?_
  refine wS_end (by rfl) ?_
  refine eX_then ?_
  refine cW_ret ?_
  have hq : (some (decide ((((l1).length : Int)) ≤ 30)) : Option ((Bool))) = some _ := hm
  replace hq := someE hq
  subst hq
  refine eX_ret (vs := [.bool (decide ((((l1).length : Int)) ≤ 30))]) [.tmp 6] (by rfl) ⟨by (show lkE _ _ _ = _); kernel_rfl, trivial⟩ ?_
  exact ⟨rfl, hB⟩

set_option maxRecDepth 100000 in
/-- slices.IndexFunc[[][]int64,[]int64] -/
theorem c_slices_IndexFunc_int64_int64_impl_ValidWiring_1 {w0 : World} {l0 : List (List (Int))} {A0 : Option Addr} {cap0 : Nat} {fp0 : List Nat} {r : (Int)} (hm : m_slices_IndexFunc_int64_int64_impl_ValidWiring_1 l0 = some r) (F0 : SlR 1 encI w0 fp0 A0 l0) :
  Calls Try.prog 101 #[.slice A0 (l0).length cap0, .func (.func 60) #[] #[]] w0 fun e w' => e = .returned (.int .i64 (r)) ∧ Chg [] w0 w' := by
 have L0 := F0.low
 have hB : Chg [] w0 w0 := Chg.refl _ _
 have hZ := Nat.le_refl w0.heap.size
 unfold m_slices_IndexFunc_int64_int64_impl_ValidWiring_1 at hm
 refine enterE (N := 19) Try.func101 (by rfl) Try.ntmps101 (by simp) [(0, .slice A0 (l0).length cap0), (1, .func (.func 60) #[] #[])] (by rfl) (by kernel_rfl) (fun a => ?_)
 refine cW_seq ?_
 refine cW_region ?_
 refine wS_pure 1 [(4, .int .i64 (0))] (by kernel_rfl) ?_
 refine wS_end (by rfl) ?_
 refine eX_then ?_
 refine cW_seq ?_
 refine cW_seq ?_
 refine cW_region ?_
 refine wS_pure 3 [(8, .int .i64 (0)), (7, .int .i64 (((l0).length : Int))), (6, .slice A0 (l0).length cap0)] (by kernel_rfl) ?_
 refine wS_end (by rfl) ?_
 refine eX_then ?_
 obtain ⟨r1, hr1, hm⟩ := bindE hm
 have hm1 := hm
 refine cW_cut (fun a' w' => Sum.inl (()) = r1 ∧ Fr 19 [] a' ∧ Chg [] w0 w' ∧ w0.heap.size ≤ w'.heap.size) ?_ ?_
 ·refine cW_block ?_
  refine cW_loop _ (fun (s1 : Int) a' w' => ∃ x1 : Int, x1 = s1 ∧ Fr 19 [(0, .slice A0 (l0).length cap0), (1, .func (.func 60) #[] #[]), (7, .int .i64 (((l0).length : Int))), (8, .int .i64 (x1))] a' ∧ SlR 1 encI w' fp0 A0 l0 ∧ Chg [] w0 w' ∧ w0.heap.size ≤ w'.heap.size) hr1 (fun hst => ⟨0, rfl, Fr.of hst (by kernel_rfl), F0, hB, hZ⟩) ?_
  rintro _ c1 a' w1 ⟨x1, rfl, hF1, F1, hB, hZ⟩ hx1
  refine Fr.goOn hF1 (by kernel_rfl) ?_
  have hm := hx1
  unfold m_slices_IndexFunc_int64_int64_impl_ValidWiring_1_s1 at hm
  refine cW_seq ?_
  refine cW_region ?_
  refine wS_pure 1 [(9, .bool (decide (x1 < (((l0).length : Int)))))] (by kernel_rfl) ?_
  refine wS_end (by rfl) ?_
  refine eX_then ?_
  refine cW_seq ?_
  refine cW_cond (t := decide (x1 < (((l0).length : Int)))) (by kernel_rfl) (fun hb1 => ?_) (fun hb1 => ?_)
  ·have hm := condT hb1 hm
   refine cW_skip ?_
   refine eX_then ?_
   refine cW_seq ?_
   refine cW_block ?_
   refine cW_seq ?_
   refine cW_region ?_
   refine wS_pure 2 [(5, .int .i64 (x1)), (10, .int .i64 (x1))] (by kernel_rfl) ?_
   refine wS_end (by rfl) ?_
   refine eX_then ?_
   refine cW_seq ?_
   refine cW_region ?_
   refine wS_pure 3 [(13, .int .i64 (x1)), (12, .slice A0 (l0).length cap0), (11, .func (.func 60) #[] #[])] (by kernel_rfl) ?_
   obtain ⟨x2, hx2, hm⟩ := bindE hm
   refine wS_idx (d := 14) (T := 24) (A := A0) (n := (l0).length) (cap := cap0) (kd := .i64) (m := x1) (by kernel_rfl) sl24 (F1.is hx2) ?_
   obtain ⟨A1, cap1, hc1, F2, K1⟩ := SlR.row F1 hx2
   refine wS_load1 (d := 15) (T := 25) (ad := (elA A0 1 (x1) 0)) (v := .slice A1 (x2).length cap1) (by kernel_rfl) vt25 hc1 ?_
   obtain ⟨y1, hy1, hm⟩ := bindE hm
   refine wS_calls (d := 16) (f := 60) (vs := [.slice A1 (x2).length cap1]) (by kernel_rfl) ent60 (c_impl_ValidWiring_1 hy1 F2) ?_
   rintro _ w2 ⟨rfl, hc2⟩
   replace F1 := F1.chg hc2 Dj.nil
   replace F2 := F2.chg hc2 Dj.nil
   replace hB := hB.inS hc2 inNil
   replace hZ := Nat.le_trans hZ hc2.size
   refine ⟨.bool (y1), rfl, ?_⟩
   refine wS_end (by rfl) ?_
   refine eX_then ?_
   refine cW_cond (t := y1) (by kernel_rfl) (fun hb2 => ?_) (fun hb2 => ?_)
   ·have hm := condT hb2 hm
    refine cW_seq ?_
    refine cW_region ?_
    refine wS_pure 2 [(4, .int .i64 (x1)), (17, .int .i64 (x1))] (by kernel_rfl) ?_
    refine wS_end (by rfl) ?_
    refine eX_then ?_
    refine cW_ret ?_
    refine eX_block_ret ?_
    refine eX_then_ret ?_
    have hq : (some (Ctl.out (Sum.inr x1)) : Option (Ctl (Int) (Sum (Unit) ((Int))))) = some _ := hm
    replace hq := someE hq
    subst hq
    refine eX_outR hx1 (fun hr => ?_)
    subst hr
    refine eX_block_ret ?_
    refine eX_then_ret ?_
    refine eX_then_ret ?_
    have hq : (some x1 : Option ((Int))) = some _ := hm1
    replace hq := someE hq
    subst hq
    refine eX_ret (vs := [.int .i64 (x1)]) [.tmp 4] (by rfl) ⟨by (show lkE _ _ _ = _); kernel_rfl, trivial⟩ ?_
    exact ⟨rfl, hB⟩
   ·have hm := condF hb2 hm
    refine cW_skip ?_
    refine eX_block ?_
    refine eX_then ?_
    refine cW_region ?_
    refine wS_pure 2 [(8, .int .i64 (wr (x1 + 1))), (18, .int .i64 (wr (x1 + 1)))] (by kernel_rfl) ?_
    refine wS_end (by rfl) ?_
    have hq : (some (Ctl.next (wr (x1 + 1))) : Option (Ctl (Int) (Sum (Unit) ((Int))))) = some _ := hm
    replace hq := someE hq
    subst hq
    exact eX_next hx1 (fun hst => ⟨wr (x1 + 1), rfl, Fr.of hst (by kernel_rfl), F1, hB, hZ⟩)
  ·have hm := condF hb1 hm
   refine cW_exit ?_
   refine eX_then_exit ?_
   have hq : (some (Ctl.out (Sum.inl (()))) : Option (Ctl (Int) (Sum (Unit) ((Int))))) = some _ := hm
   replace hq := someE hq
   subst hq
   refine eX_outX hx1 (fun hr2 => ?_)
   replace hr2 := hr2.symm
   subst hr2
   refine eX_block_hit ?_
   exact eX_J (fun hst => ⟨rfl, Fr.of hst (by kernel_rfl), hB, hZ⟩)
 ·rintro a' w3 ⟨hJ, hF2, hB, hZ⟩
  subst hJ
  refine Fr.goX hF2 (by kernel_rfl) ?_
  refine eX_then ?_
  refine cW_seq ?_
  refine cW_region ?_
  refine wS_pure 1 [(4, .int .i64 ((-1)))] (by kernel_rfl) ?_
  refine wS_end (by rfl) ?_
  refine eX_then ?_
  refine cW_ret ?_
  have hq : (some ((-1)) : Option ((Int))) = some _ := hm
  replace hq := someE hq
  subst hq
  refine eX_ret (vs := [.int .i64 ((-1))]) [.tmp 4] (by rfl) ⟨by (show lkE _ _ _ = _); kernel_rfl, trivial⟩ ?_
  exact ⟨rfl, hB⟩

set_option maxRecDepth 100000 in
/-- slices.ContainsFunc[[][]int64,[]int64] -/
theorem c_slices_ContainsFunc_int64_int64_impl_ValidWiring_1 {w0 : World} {l0 : List (List (Int))} {A0 : Option Addr} {cap0 : Nat} {fp0 : List Nat} {r : (Bool)} (hm : m_slices_ContainsFunc_int64_int64_impl_ValidWiring_1 l0 = some r) (F0 : SlR 1 encI w0 fp0 A0 l0) :
  Calls Try.prog 59 #[.slice A0 (l0).length cap0, .func (.func 60) #[] #[]] w0 fun e w' => e = .returned (.bool (r)) ∧ Chg [] w0 w' := by
 have L0 := F0.low
 have hB : Chg [] w0 w0 := Chg.refl _ _
 have hZ := Nat.le_refl w0.heap.size
 unfold m_slices_ContainsFunc_int64_int64_impl_ValidWiring_1 at hm
 refine enterE (N := 9) Try.func59 (by rfl) Try.ntmps59 (by simp) [(0, .slice A0 (l0).length cap0), (1, .func (.func 60) #[] #[])] (by rfl) (by kernel_rfl) (fun a => ?_)
 refine cW_seq ?_
 refine cW_region ?_
 refine wS_pure 1 [(4, .bool (false))] (by kernel_rfl) ?_
 refine wS_end (by rfl) ?_
 refine eX_then ?_
 refine cW_seq ?_
 refine cW_region ?_
 refine wS_pure 2 [(6, .func (.func 60) #[] #[]), (5, .slice A0 (l0).length cap0)] (by kernel_rfl) ?_
 obtain ⟨y1, hy1, hm⟩ := bindE hm
 refine wS_calls (d := 7) (f := 101) (vs := [.slice A0 (l0).length cap0, .func (.func 60) #[] #[]]) (by kernel_rfl) ent101 (c_slices_IndexFunc_int64_int64_impl_ValidWiring_1 hy1 F0) ?_
 rintro _ w1 ⟨rfl, hc1⟩
 replace F0 := F0.chg hc1 Dj.nil
 replace hB := hB.inS hc1 inNil
 replace hZ := Nat.le_trans hZ hc1.size
 refine ⟨.int .i64 (y1), rfl, ?_⟩
 refine wS_pure 2 [(4, .bool (decide (y1 ≥ 0))), (8, .bool (decide (y1 ≥ 0)))] (by kernel_rfl) ?_
 refine wS_end (by rfl) ?_
 refine eX_then ?_
 refine cW_ret ?_
 have hq : (some (decide (y1 ≥ 0)) : Option ((Bool))) = some _ := hm
 replace hq := someE hq
 subst hq
 refine eX_ret (vs := [.bool (decide (y1 ≥ 0))]) [.tmp 4] (by rfl) ⟨by (show lkE _ _ _ = _); kernel_rfl, trivial⟩ ?_
 exact ⟨rfl, hB⟩

set_option maxRecDepth 100000 in
/-- slices.IndexFunc[[]int64,int64] -/
theorem c_slices_IndexFunc_int64_int64_impl_ValidWiring_2 {w0 : World} {l0 : List (Int)} {A0 : Option Addr} {cap0 : Nat} {fp0 : List Nat} {r : (Int)} (hm : m_slices_IndexFunc_int64_int64_impl_ValidWiring_2 l0 = some r) (F0 : Sl 1 encI w0 fp0 A0 l0) :
  Calls Try.prog 102 #[.slice A0 (l0).length cap0, .func (.func 62) #[] #[]] w0 fun e w' => e = .returned (.int .i64 (r)) ∧ Chg [] w0 w' := by
 have L0 := F0.low
 have hB : Chg [] w0 w0 := Chg.refl _ _
 have hZ := Nat.le_refl w0.heap.size
 unfold m_slices_IndexFunc_int64_int64_impl_ValidWiring_2 at hm
 refine enterE (N := 19) Try.func102 (by rfl) Try.ntmps102 (by simp) [(0, .slice A0 (l0).length cap0), (1, .func (.func 62) #[] #[])] (by rfl) (by kernel_rfl) (fun a => ?_)
 refine cW_seq ?_
 refine cW_region ?_
 refine wS_pure 1 [(4, .int .i64 (0))] (by kernel_rfl) ?_
 refine wS_end (by rfl) ?_
 refine eX_then ?_
 refine cW_seq ?_
 refine cW_seq ?_
 refine cW_region ?_
 refine wS_pure 3 [(8, .int .i64 (0)), (7, .int .i64 (((l0).length : Int))), (6, .slice A0 (l0).length cap0)] (by kernel_rfl) ?_
 refine wS_end (by rfl) ?_
 refine eX_then ?_
 obtain ⟨r1, hr1, hm⟩ := bindE hm
 have hm1 := hm
 refine cW_cut (fun a' w' => Sum.inl (()) = r1 ∧ Fr 19 [] a' ∧ Chg [] w0 w' ∧ w0.heap.size ≤ w'.heap.size) ?_ ?_
 ·refine cW_block ?_
  refine cW_loop _ (fun (s1 : Int) a' w' => ∃ x1 : Int, x1 = s1 ∧ Fr 19 [(0, .slice A0 (l0).length cap0), (1, .func (.func 62) #[] #[]), (7, .int .i64 (((l0).length : Int))), (8, .int .i64 (x1))] a' ∧ Sl 1 encI w' fp0 A0 l0 ∧ Chg [] w0 w' ∧ w0.heap.size ≤ w'.heap.size) hr1 (fun hst => ⟨0, rfl, Fr.of hst (by kernel_rfl), F0, hB, hZ⟩) ?_
  rintro _ c1 a' w1 ⟨x1, rfl, hF1, F1, hB, hZ⟩ hx1
  refine Fr.goOn hF1 (by kernel_rfl) ?_
  have hm := hx1
  unfold m_slices_IndexFunc_int64_int64_impl_ValidWiring_2_s1 at hm
  refine cW_seq ?_
  refine cW_region ?_
  refine wS_pure 1 [(9, .bool (decide (x1 < (((l0).length : Int)))))] (by kernel_rfl) ?_
  refine wS_end (by rfl) ?_
  refine eX_then ?_
  refine cW_seq ?_
  refine cW_cond (t := decide (x1 < (((l0).length : Int)))) (by kernel_rfl) (fun hb1 => ?_) (fun hb1 => ?_)
  ·have hm := condT hb1 hm
   refine cW_skip ?_
   refine eX_then ?_
   refine cW_seq ?_
   refine cW_block ?_
   refine cW_seq ?_
   refine cW_region ?_
   refine wS_pure 2 [(5, .int .i64 (x1)), (10, .int .i64 (x1))] (by kernel_rfl) ?_
   refine wS_end (by rfl) ?_
   refine eX_then ?_
   refine cW_seq ?_
   refine cW_region ?_
   refine wS_pure 3 [(13, .int .i64 (x1)), (12, .slice A0 (l0).length cap0), (11, .func (.func 62) #[] #[])] (by kernel_rfl) ?_
   obtain ⟨x2, hx2, hm⟩ := bindE hm
   refine wS_idx (d := 14) (T := 25) (A := A0) (n := (l0).length) (cap := cap0) (kd := .i64) (m := x1) (by kernel_rfl) sl25 (F1.is hx2) ?_
   refine wS_load1 (d := 15) (T := 2) (ad := (elA A0 1 (x1) 0)) (v := .int .i64 (x2)) (by kernel_rfl) vt2 (Sl.cell F1 hx2 0 (by rfl)) ?_
   obtain ⟨y1, hy1, hm⟩ := bindE hm
   refine wS_calls (d := 16) (f := 62) (vs := [.int .i64 (x2)]) (by kernel_rfl) ent62 (c_impl_ValidWiring_2 hy1) ?_
   rintro _ w2 ⟨rfl, hc1⟩
   replace F1 := F1.chg hc1 Dj.nil
   replace hB := hB.inS hc1 inNil
   replace hZ := Nat.le_trans hZ hc1.size
   refine ⟨.bool (y1), rfl, ?_⟩
   refine wS_end (by rfl) ?_
   refine eX_then ?_
   refine cW_cond (t := y1) (by kernel_rfl) (fun hb2 => ?_) (fun hb2 => ?_)
   ·have hm := condT hb2 hm
    refine cW_seq ?_
    refine cW_region ?_
    refine wS_pure 2 [(4, .int .i64 (x1)), (17, .int .i64 (x1))] (by kernel_rfl) ?_
    refine wS_end (by rfl) ?_
    refine eX_then ?_
    refine cW_ret ?_
    refine eX_block_ret ?_
    refine eX_then_ret ?_
    have hq : (some (Ctl.out (Sum.inr x1)) : Option (Ctl (Int) (Sum (Unit) ((Int))))) = some _ := hm
    replace hq := someE hq
    subst hq
    refine eX_outR hx1 (fun hr => ?_)
    subst hr
    refine eX_block_ret ?_
    refine eX_then_ret ?_
    refine eX_then_ret ?_
    have hq : (some x1 : Option ((Int))) = some _ := hm1
    replace hq := someE hq
    subst hq
    refine eX_ret (vs := [.int .i64 (x1)]) [.tmp 4] (by rfl) ⟨by (show lkE _ _ _ = _); kernel_rfl, trivial⟩ ?_
    exact ⟨rfl, hB⟩
   ·have hm := condF hb2 hm
    refine cW_skip ?_
    refine eX_block ?_
    refine eX_then ?_
    refine cW_region ?_
    refine wS_pure 2 [(8, .int .i64 (wr (x1 + 1))), (18, .int .i64 (wr (x1 + 1)))] (by kernel_rfl) ?_
    refine wS_end (by rfl) ?_
    have hq : (some (Ctl.next (wr (x1 + 1))) : Option (Ctl (Int) (Sum (Unit) ((Int))))) = some _ := hm
    replace hq := someE hq
    subst hq
    exact eX_next hx1 (fun hst => ⟨wr (x1 + 1), rfl, Fr.of hst (by kernel_rfl), F1, hB, hZ⟩)
  ·have hm := condF hb1 hm
   refine cW_exit ?_
   refine eX_then_exit ?_
   have hq : (some (Ctl.out (Sum.inl (()))) : Option (Ctl (Int) (Sum (Unit) ((Int))))) = some _ := hm
   replace hq := someE hq
   subst hq
   refine eX_outX hx1 (fun hr2 => ?_)
   replace hr2 := hr2.symm
   subst hr2
   refine eX_block_hit ?_
   exact eX_J (fun hst => ⟨rfl, Fr.of hst (by kernel_rfl), hB, hZ⟩)
 ·rintro a' w3 ⟨hJ, hF2, hB, hZ⟩
  subst hJ
  refine Fr.goX hF2 (by kernel_rfl) ?_
  refine eX_then ?_
  refine cW_seq ?_
  refine cW_region ?_
  refine wS_pure 1 [(4, .int .i64 ((-1)))] (by kernel_rfl) ?_
  refine wS_end (by rfl) ?_
  refine eX_then ?_
  refine cW_ret ?_
  have hq : (some ((-1)) : Option ((Int))) = some _ := hm
  replace hq := someE hq
  subst hq
  refine eX_ret (vs := [.int .i64 ((-1))]) [.tmp 4] (by rfl) ⟨by (show lkE _ _ _ = _); kernel_rfl, trivial⟩ ?_
  exact ⟨rfl, hB⟩

set_option maxRecDepth 100000 in
/-- slices.ContainsFunc[[]int64,int64] -/
theorem c_slices_ContainsFunc_int64_int64_impl_ValidWiring_2 {w0 : World} {l0 : List (Int)} {A0 : Option Addr} {cap0 : Nat} {fp0 : List Nat} {r : (Bool)} (hm : m_slices_ContainsFunc_int64_int64_impl_ValidWiring_2 l0 = some r) (F0 : Sl 1 encI w0 fp0 A0 l0) :
  Calls Try.prog 61 #[.slice A0 (l0).length cap0, .func (.func 62) #[] #[]] w0 fun e w' => e = .returned (.bool (r)) ∧ Chg [] w0 w' := by
 have L0 := F0.low
 have hB : Chg [] w0 w0 := Chg.refl _ _
 have hZ := Nat.le_refl w0.heap.size
 unfold m_slices_ContainsFunc_int64_int64_impl_ValidWiring_2 at hm
 refine enterE (N := 9) Try.func61 (by rfl) Try.ntmps61 (by simp) [(0, .slice A0 (l0).length cap0), (1, .func (.func 62) #[] #[])] (by rfl) (by kernel_rfl) (fun a => ?_)
 refine cW_seq ?_
 refine cW_region ?_
 refine wS_pure 1 [(4, .bool (false))] (by kernel_rfl) ?_
 refine wS_end (by rfl) ?_
 refine eX_then ?_
 refine cW_seq ?_
 refine cW_region ?_
 refine wS_pure 2 [(6, .func (.func 62) #[] #[]), (5, .slice A0 (l0).length cap0)] (by kernel_rfl) ?_
 obtain ⟨y1, hy1, hm⟩ := bindE hm
 refine wS_calls (d := 7) (f := 102) (vs := [.slice A0 (l0).length cap0, .func (.func 62) #[] #[]]) (by kernel_rfl) ent102 (c_slices_IndexFunc_int64_int64_impl_ValidWiring_2 hy1 F0) ?_
 rintro _ w1 ⟨rfl, hc1⟩
 replace F0 := F0.chg hc1 Dj.nil
 replace hB := hB.inS hc1 inNil
 replace hZ := Nat.le_trans hZ hc1.size
 refine ⟨.int .i64 (y1), rfl, ?_⟩
 refine wS_pure 2 [(4, .bool (decide (y1 ≥ 0))), (8, .bool (decide (y1 ≥ 0)))] (by kernel_rfl) ?_
 refine wS_end (by rfl) ?_
 refine eX_then ?_
 refine cW_ret ?_
 have hq : (some (decide (y1 ≥ 0)) : Option ((Bool))) = some _ := hm
 replace hq := someE hq
 subst hq
 refine eX_ret (vs := [.bool (decide (y1 ≥ 0))]) [.tmp 4] (by rfl) ⟨by (show lkE _ _ _ = _); kernel_rfl, trivial⟩ ?_
 exact ⟨rfl, hB⟩

set_option maxRecDepth 100000 in
/-- impl.ValidWiring -/
theorem c_impl_ValidWiring {w0 : World} {p0_0 : Int} {l0_1 : List (List (Int))} {A0_1 : Option Addr} {cap0_1 : Nat} {fp0_1 : List Nat} {l0_2 : List (List (Int))} {A0_2 : Option Addr} {cap0_2 : Nat} {fp0_2 : List Nat} {l0_3 : List (Int)} {A0_3 : Option Addr} {cap0_3 : Nat} {fp0_3 : List Nat} {r : (Bool)} (hm : m_impl_ValidWiring p0_0 l0_1 l0_2 l0_3 = some r) (F0_1 : SlR 1 encI w0 fp0_1 A0_1 l0_1) (F0_2 : SlR 1 encI w0 fp0_2 A0_2 l0_2) (F0_3 : Sl 1 encI w0 fp0_3 A0_3 l0_3) :
  Calls Try.prog 16 #[.agg #[.int .i64 (p0_0), .slice A0_1 (l0_1).length cap0_1, .slice A0_2 (l0_2).length cap0_2, .slice A0_3 (l0_3).length cap0_3]] w0 fun e w' => e = .returned (.bool (r)) ∧ Chg [] w0 w' := by
 have L0_1 := F0_1.low
 have L0_2 := F0_2.low
 have L0_3 := F0_3.low
 have hB : Chg [] w0 w0 := Chg.refl _ _
 have hZ := Nat.le_refl w0.heap.size
 unfold m_impl_ValidWiring at hm
 refine enterE (N := 34) Try.func16 (by rfl) Try.ntmps16 (by simp) [(0, .agg #[.int .i64 (p0_0), .slice A0_1 (l0_1).length cap0_1, .slice A0_2 (l0_2).length cap0_2, .slice A0_3 (l0_3).length cap0_3])] (by rfl) (by kernel_rfl) (fun a => ?_)
 refine cW_seq ?_
 refine cW_region ?_
 refine wS_box (d := 1) (T := 27) (x := .agg #[.int .i64 (p0_0), .slice A0_1 (l0_1).length cap0_1, .slice A0_2 (l0_2).length cap0_2, .slice A0_3 (l0_3).length cap0_3]) (by kernel_rfl) ?_
 intro b1 w1 G1 F1 hc1
 replace F1 : Cl w1 b1 27 [.int .i64 (p0_0), .slice A0_1 (l0_1).length cap0_1, .slice A0_2 (l0_2).length cap0_2, .slice A0_3 (l0_3).length cap0_3] := F1
 replace F0_1 := F0_1.chg hc1 Dj.nil
 replace F0_2 := F0_2.chg hc1 Dj.nil
 replace F0_3 := F0_3.chg hc1 Dj.nil
 replace hB := hB.inS hc1 inNil
 replace G1 := Nat.le_trans hZ G1
 replace hZ := Nat.le_trans hZ hc1.size
 refine wS_pure 1 [(2, .bool (false))] (by kernel_rfl) ?_
 refine wS_end (by rfl) ?_
 refine eX_then ?_
 refine cW_seq ?_
 refine cW_seq ?_
 refine cW_region ?_
 refine wS_pure 1 [(3, .pointer (some ⟨b1, 0, none⟩))] (by kernel_rfl) ?_
 refine wS_load1 (d := 4) (T := 2) (ad := ⟨b1, 0, none⟩) (v := .int .i64 (p0_0)) (by kernel_rfl) vt2 ((F1).cell 0) ?_
 obtain ⟨y1, hy1, hm⟩ := bindE hm
 refine wS_calls (d := 5) (f := 57) (vs := [.int .i64 (p0_0), .int .i64 (0), .int .i64 (14)]) (by kernel_rfl) ent57 (c_impl_in hy1) ?_
 rintro _ w2 ⟨rfl, hc2⟩
 replace F0_1 := F0_1.chg hc2 Dj.nil
 replace F0_2 := F0_2.chg hc2 Dj.nil
 replace F0_3 := F0_3.chg hc2 Dj.nil
 replace F1 := F1.chg hc2 notNil
 replace hB := hB.inS hc2 inNil
 replace hZ := Nat.le_trans hZ hc2.size
 refine ⟨.bool (y1), rfl, ?_⟩
 refine wS_pure 2 [(7, .bool (!y1)), (6, .bool (!y1))] (by kernel_rfl) ?_
 refine wS_bool (!y1) (fun hb1 => ?_) (fun hb1 => ?_)
 ·have hm := condT hb1 hm
  rewrite [hb1]
  refine wS_pure 19 [(26, .bool (true)), (25, undef), (24, undef), (23, undef), (22, undef), (21, .bool (true)), (20, .bool (true)), (19, undef), (18, undef), (17, undef), (16, undef), (15, .bool (true)), (14, .bool (true)), (13, undef), (12, undef), (11, undef), (10, undef), (9, undef), (8, undef)] (by kernel_rfl) ?_
  refine wS_end (by rfl) ?_
  refine eX_then ?_
  refine cW_prune [(1, .pointer (some ⟨b1, 0, none⟩)), (26, .bool (true))] (by kernel_rfl) (by kernel_rfl) (fun a1 => ?_)
  refine cW_cond_t (by kernel_rfl) ?_
  refine cW_seq ?_
  refine cW_region ?_
  refine wS_pure 1 [(2, .bool (false))] (by kernel_rfl) ?_
  refine wS_end (by rfl) ?_
  refine eX_then ?_
  refine cW_ret ?_
  refine eX_then_ret ?_
  have hq : (some false : Option ((Bool))) = some _ := hm
  replace hq := someE hq
  subst hq
  refine eX_ret (vs := [.bool (false)]) [.tmp 2] (by rfl) ⟨by (show lkE _ _ _ = _); kernel_rfl, trivial⟩ ?_
  exact ⟨rfl, hB⟩
 ·have hm := condF hb1 hm
  rewrite [hb1]
  refine wS_pure 1 [(8, .pointer (some ⟨b1, 3, none⟩))] (by kernel_rfl) ?_
  refine wS_load1 (d := 9) (T := 25) (ad := ⟨b1, 3, none⟩) (v := .slice A0_3 (l0_3).length cap0_3) (by kernel_rfl) vt25 ((F1).cell 3) ?_
  refine wS_pure 2 [(11, .pointer (some ⟨b1, 0, none⟩)), (10, .int .i64 (((l0_3).length : Int)))] (by kernel_rfl) ?_
  refine wS_load1 (d := 12) (T := 2) (ad := ⟨b1, 0, none⟩) (v := .int .i64 (p0_0)) (by kernel_rfl) vt2 ((F1).cell 0) ?_
  refine wS_pure 3 [(15, .bool ((((l0_3).length : Int)) != p0_0)), (14, .bool ((((l0_3).length : Int)) != p0_0)), (13, .bool ((((l0_3).length : Int)) != p0_0))] (by kernel_rfl) ?_
  refine wS_bool ((((l0_3).length : Int)) != p0_0) (fun hb2 => ?_) (fun hb2 => ?_)
  ·have hm := condT hb2 hm
   rewrite [hb2]
   refine wS_pure 11 [(26, .bool (true)), (25, undef), (24, undef), (23, undef), (22, undef), (21, .bool (true)), (20, .bool (true)), (19, undef), (18, undef), (17, undef), (16, undef)] (by kernel_rfl) ?_
   refine wS_end (by rfl) ?_
   refine eX_then ?_
   refine cW_prune [(1, .pointer (some ⟨b1, 0, none⟩)), (26, .bool (true))] (by kernel_rfl) (by kernel_rfl) (fun a2 => ?_)
   refine cW_cond_t (by kernel_rfl) ?_
   refine cW_seq ?_
   refine cW_region ?_
   refine wS_pure 1 [(2, .bool (false))] (by kernel_rfl) ?_
   refine wS_end (by rfl) ?_
   refine eX_then ?_
   refine cW_ret ?_
   refine eX_then_ret ?_
   have hq : (some false : Option ((Bool))) = some _ := hm
   replace hq := someE hq
   subst hq
   refine eX_ret (vs := [.bool (false)]) [.tmp 2] (by rfl) ⟨by (show lkE _ _ _ = _); kernel_rfl, trivial⟩ ?_
   exact ⟨rfl, hB⟩
  ·have hm := condF hb2 hm
   rewrite [hb2]
   refine wS_pure 1 [(16, .pointer (some ⟨b1, 1, none⟩))] (by kernel_rfl) ?_
   refine wS_load1 (d := 17) (T := 24) (ad := ⟨b1, 1, none⟩) (v := .slice A0_1 (l0_1).length cap0_1) (by kernel_rfl) vt24 ((F1).cell 1) ?_
   obtain ⟨y2, hy2, hm⟩ := bindE hm
   refine wS_calls (d := 18) (f := 58) (vs := [.pointer (some ⟨b1, 0, none⟩), .slice A0_1 (l0_1).length cap0_1, .int .i64 (2)]) (by kernel_rfl) ent58 (c_impl_Wiring_pairsOk_bimplWiring hy2 F0_1 F0_2 F0_3 F1 F0_1) ?_
   rintro _ w3 ⟨rfl, hc3⟩
   replace F0_1 := F0_1.chg hc3 Dj.nil
   replace F0_2 := F0_2.chg hc3 Dj.nil
   replace F0_3 := F0_3.chg hc3 Dj.nil
   replace F1 := F1.chg hc3 notNil
   replace hB := hB.inS hc3 inNil
   replace hZ := Nat.le_trans hZ hc3.size
   refine ⟨.bool (y2), rfl, ?_⟩
   refine wS_pure 3 [(21, .bool (!y2)), (20, .bool (!y2)), (19, .bool (!y2))] (by kernel_rfl) ?_
   refine wS_bool (!y2) (fun hb3 => ?_) (fun hb3 => ?_)
   ·have hm := condT hb3 hm
    rewrite [hb3]
    refine wS_pure 5 [(26, .bool (true)), (25, undef), (24, undef), (23, undef), (22, undef)] (by kernel_rfl) ?_
    refine wS_end (by rfl) ?_
    refine eX_then ?_
    refine cW_prune [(1, .pointer (some ⟨b1, 0, none⟩)), (26, .bool (true))] (by kernel_rfl) (by kernel_rfl) (fun a3 => ?_)
    refine cW_cond_t (by kernel_rfl) ?_
    refine cW_seq ?_
    refine cW_region ?_
    refine wS_pure 1 [(2, .bool (false))] (by kernel_rfl) ?_
    refine wS_end (by rfl) ?_
    refine eX_then ?_
    refine cW_ret ?_
    refine eX_then_ret ?_
    have hq : (some false : Option ((Bool))) = some _ := hm
    replace hq := someE hq
    subst hq
    refine eX_ret (vs := [.bool (false)]) [.tmp 2] (by rfl) ⟨by (show lkE _ _ _ = _); kernel_rfl, trivial⟩ ?_
    exact ⟨rfl, hB⟩
   ·have hm := condF hb3 hm
    rewrite [hb3]
    refine wS_pure 1 [(22, .pointer (some ⟨b1, 2, none⟩))] (by kernel_rfl) ?_
    refine wS_load1 (d := 23) (T := 24) (ad := ⟨b1, 2, none⟩) (v := .slice A0_2 (l0_2).length cap0_2) (by kernel_rfl) vt24 ((F1).cell 2) ?_
    obtain ⟨y3, hy3, hm⟩ := bindE hm
    refine wS_calls (d := 24) (f := 58) (vs := [.pointer (some ⟨b1, 0, none⟩), .slice A0_2 (l0_2).length cap0_2, .int .i64 (3)]) (by kernel_rfl) ent58 (c_impl_Wiring_pairsOk_bimplWiring hy3 F0_1 F0_2 F0_3 F1 F0_2) ?_
    rintro _ w4 ⟨rfl, hc4⟩
    replace F0_1 := F0_1.chg hc4 Dj.nil
    replace F0_2 := F0_2.chg hc4 Dj.nil
    replace F0_3 := F0_3.chg hc4 Dj.nil
    replace F1 := F1.chg hc4 notNil
    replace hB := hB.inS hc4 inNil
    replace hZ := Nat.le_trans hZ hc4.size
    refine ⟨.bool (y3), rfl, ?_⟩
    refine wS_pure 2 [(26, .bool (!y3)), (25, .bool (!y3))] (by kernel_rfl) ?_
    refine wS_end (by rfl) ?_
    refine eX_then ?_
    refine cW_prune [(1, .pointer (some ⟨b1, 0, none⟩)), (26, .bool (!y3))] (by kernel_rfl) (by kernel_rfl) (fun a4 => ?_)
    refine cW_cond (t := !y3) (by kernel_rfl) (fun hb4 => ?_) (fun hb4 => ?_)
    ·have hm := condT hb4 hm
     refine cW_seq ?_
     refine cW_region ?_
     refine wS_pure 1 [(2, .bool (false))] (by kernel_rfl) ?_
     refine wS_end (by rfl) ?_
     refine eX_then ?_
     refine cW_ret ?_
     refine eX_then_ret ?_
     have hq : (some false : Option ((Bool))) = some _ := hm
     replace hq := someE hq
     subst hq
     refine eX_ret (vs := [.bool (false)]) [.tmp 2] (by rfl) ⟨by (show lkE _ _ _ = _); kernel_rfl, trivial⟩ ?_
     exact ⟨rfl, hB⟩
    ·have hm := condF hb4 hm
     refine cW_skip ?_
     refine eX_then ?_
     refine cW_seq ?_
     refine cW_seq ?_
     refine cW_region ?_
     refine wS_pure 1 [(27, .pointer (some ⟨b1, 2, none⟩))] (by kernel_rfl) ?_
     refine wS_load1 (d := 28) (T := 24) (ad := ⟨b1, 2, none⟩) (v := .slice A0_2 (l0_2).length cap0_2) (by kernel_rfl) vt24 ((F1).cell 2) ?_
     obtain ⟨y4, hy4, hm⟩ := bindE hm
     refine wS_calls (d := 29) (f := 59) (vs := [.slice A0_2 (l0_2).length cap0_2, .func (.func 60) #[] #[]]) (by kernel_rfl) ent59 (c_slices_ContainsFunc_int64_int64_impl_ValidWiring_1 hy4 F0_2) ?_
     rintro _ w5 ⟨rfl, hc5⟩
     replace F0_1 := F0_1.chg hc5 Dj.nil
     replace F0_2 := F0_2.chg hc5 Dj.nil
     replace F0_3 := F0_3.chg hc5 Dj.nil
     replace F1 := F1.chg hc5 notNil
     replace hB := hB.inS hc5 inNil
     replace hZ := Nat.le_trans hZ hc5.size
     refine ⟨.bool (y4), rfl, ?_⟩
     refine wS_end (by rfl) ?_
     refine eX_then ?_
     refine cW_cond (t := y4) (by kernel_rfl) (fun hb5 => ?_) (fun hb5 => ?_)
     ·have hm := condT hb5 hm
      refine cW_seq ?_
      refine cW_region ?_
      refine wS_pure 1 [(2, .bool (false))] (by kernel_rfl) ?_
      refine wS_end (by rfl) ?_
      refine eX_then ?_
      refine cW_ret ?_
      refine eX_then_ret ?_
      have hq : (some false : Option ((Bool))) = some _ := hm
      replace hq := someE hq
      subst hq
      refine eX_ret (vs := [.bool (false)]) [.tmp 2] (by rfl) ⟨by (show lkE _ _ _ = _); kernel_rfl, trivial⟩ ?_
      exact ⟨rfl, hB⟩
     ·have hm := condF hb5 hm
      refine cW_skip ?_
      refine eX_then ?_
      refine cW_seq ?_
      refine cW_region ?_
      refine wS_pure 1 [(30, .pointer (some ⟨b1, 3, none⟩))] (by kernel_rfl) ?_
      refine wS_load1 (d := 31) (T := 25) (ad := ⟨b1, 3, none⟩) (v := .slice A0_3 (l0_3).length cap0_3) (by kernel_rfl) vt25 ((F1).cell 3) ?_
      obtain ⟨y5, hy5, hm⟩ := bindE hm
      refine wS_calls (d := 32) (f := 61) (vs := [.slice A0_3 (l0_3).length cap0_3, .func (.func 62) #[] #[]]) (by kernel_rfl) ent61 (c_slices_ContainsFunc_int64_int64_impl_ValidWiring_2 hy5 F0_3) ?_
      rintro _ w6 ⟨rfl, hc6⟩
      replace F0_1 := F0_1.chg hc6 Dj.nil
      replace F0_2 := F0_2.chg hc6 Dj.nil
      replace F0_3 := F0_3.chg hc6 Dj.nil
      replace F1 := F1.chg hc6 notNil
      replace hB := hB.inS hc6 inNil
      replace hZ := Nat.le_trans hZ hc6.size
      refine ⟨.bool (y5), rfl, ?_⟩
      refine wS_pure 2 [(2, .bool (!y5)), (33, .bool (!y5))] (by kernel_rfl) ?_
      refine wS_end (by rfl) ?_
      refine eX_then ?_
      refine cW_ret ?_
      have hq : (some (!y5) : Option ((Bool))) = some _ := hm
      replace hq := someE hq
      subst hq
      refine eX_ret (vs := [.bool (!y5)]) [.tmp 2] (by rfl) ⟨by (show lkE _ _ _ = _); kernel_rfl, trivial⟩ ?_
      exact ⟨rfl, hB⟩

end Go.Proofs.Ytngnljnfbfgfeaa
