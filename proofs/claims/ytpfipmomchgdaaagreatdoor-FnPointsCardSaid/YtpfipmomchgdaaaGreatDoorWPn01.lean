/- Printed walks: laws.b10Long, spec.l00From, (*spec.l00Src).next, (*spec.l00Src).pick, (*spec.l00Src).one, spec.l01DrawGood, spec.B10Points, laws.b10At, laws.b10Pin, impl.in, impl.IsPoint, impl.noPoint, slices.IndexFunc[[]impl.Point,impl.Point], slices.ContainsFunc[[]impl.Point,impl.Point], impl.ArePoints, slices.Clone[[]impl.Point,impl.Point], slices.Compact[[]impl.Point,impl.Point], impl.sorted, impl.SortPoints, impl.Decimal, impl.joined, impl.pointsText, impl.PointsText, strings.Split, impl.parted, impl.ReadDecimal, internal/stringslite.Cut, strings.Cut, impl.ReadPoints, laws.b10Same, laws.b10In, impl.box, impl.BoxOf, impl.size, impl.far. -/
import Derived.Test.YtpfipmomchgdaaaGreatDoorProg
import Derived.Test.YtpfipmomchgdaaaGreatDoorMod
import Derived.Test.YtpfipmomchgdaaaGreatDoorEqs
import Derived.Test.YtpfipmomchgdaaaGreatDoorSrtC
import Derived.Test.YtpfipmomchgdaaaGreatDoorStrC
set_option linter.unusedSimpArgs false
set_option linter.unusedVariables false
namespace Go.Proofs.YtpfipmomchgdaaaGreatDoor
open Go.RowKit
attribute [local irreducible] wS cW eX wH

theorem ent10 : Ent Tryz.prog 10 := fun _ => by kernel_rfl
theorem ent17 : Ent Tryz.prog 17 := fun _ => by kernel_rfl
theorem ent18 : Ent Tryz.prog 18 := fun _ => by kernel_rfl
theorem ent19 : Ent Tryz.prog 19 := fun _ => by kernel_rfl
theorem ent20 : Ent Tryz.prog 20 := fun _ => by kernel_rfl
theorem ent21 : Ent Tryz.prog 21 := fun _ => by kernel_rfl
theorem ent22 : Ent Tryz.prog 22 := fun _ => by kernel_rfl
theorem ent23 : Ent Tryz.prog 23 := fun _ => by kernel_rfl
theorem ent24 : Ent Tryz.prog 24 := fun _ => by kernel_rfl
theorem ent25 : Ent Tryz.prog 25 := fun _ => by kernel_rfl
theorem ent26 : Ent Tryz.prog 26 := fun _ => by kernel_rfl
theorem ent27 : Ent Tryz.prog 27 := fun _ => by kernel_rfl
theorem ent28 : Ent Tryz.prog 28 := fun _ => by kernel_rfl
theorem ent29 : Ent Tryz.prog 29 := fun _ => by kernel_rfl
theorem ent32 : Ent Tryz.prog 32 := fun _ => by kernel_rfl
theorem ent33 : Ent Tryz.prog 33 := fun _ => by kernel_rfl
theorem ent34 : Ent Tryz.prog 34 := fun _ => by kernel_rfl
theorem ent35 : Ent Tryz.prog 35 := fun _ => by kernel_rfl
theorem ent37 : Ent Tryz.prog 37 := fun _ => by kernel_rfl
theorem ent38 : Ent Tryz.prog 38 := fun _ => by kernel_rfl
theorem ent39 : Ent Tryz.prog 39 := fun _ => by kernel_rfl
theorem ent40 : Ent Tryz.prog 40 := fun _ => by kernel_rfl
theorem ent41 : Ent Tryz.prog 41 := fun _ => by kernel_rfl
theorem ent42 : Ent Tryz.prog 42 := fun _ => by kernel_rfl
theorem ent43 : Ent Tryz.prog 43 := fun _ => by kernel_rfl
theorem ent44 : Ent Tryz.prog 44 := fun _ => by kernel_rfl
theorem ent45 : Ent Tryz.prog 45 := fun _ => by kernel_rfl
theorem ent50 : Ent Tryz.prog 50 := fun _ => by kernel_rfl
theorem ent51 : Ent Tryz.prog 51 := fun _ => by kernel_rfl
theorem ent52 : Ent Tryz.prog 52 := fun _ => by kernel_rfl
theorem ent53 : Ent Tryz.prog 53 := fun _ => by kernel_rfl
theorem vt5 : VarTy Tryz.prog 5 1 false := ⟨by kernel_rfl, by kernel_rfl⟩
theorem vt9 : VarTy Tryz.prog 9 1 false := ⟨by kernel_rfl, by kernel_rfl⟩
theorem vt22 : VarTy Tryz.prog 22 1 false := ⟨by kernel_rfl, by kernel_rfl⟩
theorem vt27 : VarTy Tryz.prog 27 2 true := ⟨by kernel_rfl, by kernel_rfl⟩
theorem vt59 : VarTy Tryz.prog 59 1 false := ⟨by kernel_rfl, by kernel_rfl⟩
theorem sl22 : SlTy Tryz.prog 22 5 1 := ⟨Tryz.underlying22, by kernel_rfl⟩
theorem sl24 : SlTy Tryz.prog 24 27 2 := ⟨Tryz.underlying24, by kernel_rfl⟩
theorem sl50 : SlTy Tryz.prog 50 9 1 := ⟨Tryz.underlying50, by kernel_rfl⟩
theorem el24 : ElTy Tryz.prog 24 27 2 (.agg #[.int .i64 (0), .int .i64 (0)]) := ElTy.mk' Tryz.underlying24 (by kernel_rfl) (by rfl)
theorem el50 : ElTy Tryz.prog 50 9 1 (.string (ByteArray.empty)) := ElTy.mk' Tryz.underlying50 (by kernel_rfl) (by rfl)
theorem eq27 : ∃ f0 f1, EqTy Tryz.prog 27 f0 f1 := ⟨_, _, Tryz.underlying27, by kernel_rfl, by kernel_rfl, by kernel_rfl, fun w => pureRun_run (by kernel_rfl) w, fun w => pureRun_run (by kernel_rfl) w, rfl, rfl, Tryz.underlying2, Tryz.underlying2, by kernel_rfl⟩
theorem sty9 : Tryz.prog.underlying 9 = some .string := Tryz.underlying9
theorem sz2 : pureRun Tryz.prog (sizeOf 2) = some 1 := by kernel_rfl
theorem sz3 : pureRun Tryz.prog (sizeOf 3) = some 1 := by kernel_rfl
theorem sz27 : pureRun Tryz.prog (sizeOf 27) = some 2 := by kernel_rfl
theorem sz59 : pureRun Tryz.prog (sizeOf 59) = some 1 := by kernel_rfl

set_option maxRecDepth 100000 in
/-- laws.b10Long -/
theorem c_laws_b10Long {w0 : World} {l0 : List (Int)} {A0 : Option Addr} {cap0 : Nat} {fp0 : List Nat} {l1 : List (Int)} {A1 : Option Addr} {cap1 : Nat} {fp1 : List Nat} {r : (Bool)} (hm : m_laws_b10Long l0 l1 = some r) (F0 : Sl 1 encU w0 fp0 A0 l0) (F1 : Sl 1 encU w0 fp1 A1 l1) :
  Calls Tryz.prog 4 #[.slice A0 (l0).length cap0, .slice A1 (l1).length cap1] w0 fun e w' => e = .returned (.bool (r)) ∧ Chg [] w0 w' := by
 have L0 := F0.low
 have L1 := F1.low
 have hB : Chg [] w0 w0 := Chg.refl _ _
 have hZ := Nat.le_refl w0.heap.size
 unfold m_laws_b10Long at hm
 refine enterE (N := 13) Tryz.func4 (by rfl) Tryz.ntmps4 (by simp) [(0, .slice A0 (l0).length cap0), (1, .slice A1 (l1).length cap1)] (by rfl) (by kernel_rfl) (fun a => ?_)
 refine cW_seq ?_
 refine cW_region ?_
 refine wS_pure 1 [(4, .bool (false))] (by kernel_rfl) ?_
 refine wS_end (by rfl) ?_
 refine eX_then ?_
 refine cW_seq ?_
 refine cW_region ?_
 refine wS_pure 4 [(8, .bool (decide ((((l0).length : Int)) > 1048576))), (7, .bool (decide ((((l0).length : Int)) > 1048576))), (6, .int .i64 (((l0).length : Int))), (5, .slice A0 (l0).length cap0)] (by kernel_rfl) ?_
 refine wS_bool (decide ((((l0).length : Int)) > 1048576)) (fun hb1 => ?_) (fun hb1 => ?_)
 ·have hm := condT hb1 hm
  rewrite [hb1]
  refine wS_pure 5 [(4, .bool (true)), (12, .bool (true)), (11, undef), (10, undef), (9, undef)] (by kernel_rfl) ?_
  refine wS_end (by rfl) ?_
  refine eX_then ?_
  refine cW_ret ?_
  have hq : (some true : Option ((Bool))) = some _ := hm
  replace hq := someE hq
  subst hq
  refine eX_ret (vs := [.bool (true)]) [.tmp 4] (by rfl) ⟨by (show lkE _ _ _ = _); kernel_rfl, trivial⟩ ?_
  exact ⟨rfl, hB⟩
 ·have hm := condF hb1 hm
  rewrite [hb1]
  refine wS_pure 5 [(4, .bool (decide ((((l1).length : Int)) > 1048576))), (12, .bool (decide ((((l1).length : Int)) > 1048576))), (11, .bool (decide ((((l1).length : Int)) > 1048576))), (10, .int .i64 (((l1).length : Int))), (9, .slice A1 (l1).length cap1)] (by kernel_rfl) ?_
  refine wS_end (by rfl) ?_
  refine eX_then ?_
  refine cW_ret ?_
  have hq : (some (decide ((((l1).length : Int)) > 1048576)) : Option ((Bool))) = some _ := hm
  replace hq := someE hq
  subst hq
  refine eX_ret (vs := [.bool (decide ((((l1).length : Int)) > 1048576))]) [.tmp 4] (by rfl) ⟨by (show lkE _ _ _ = _); kernel_rfl, trivial⟩ ?_
  exact ⟨rfl, hB⟩

set_option maxRecDepth 100000 in
/-- spec.l00From -/
theorem c_spec_l00From {w0 : World} {l0 : List (Int)} {A0 : Option Addr} {cap0 : Nat} {fp0 : List Nat} {r : (Int × Int)} (hm : m_spec_l00From l0 = some r) (F0 : Sl 1 encU w0 fp0 A0 l0) :
  Calls Tryz.prog 17 #[.slice A0 (l0).length cap0] w0 fun e w' => ∃ b100, e = .returned (.pointer (some ⟨b100, 0, none⟩)) ∧ Cl w' b100 61 [.slice A0 (l0).length cap0, .int .i64 (r.1), .int .u64 (r.2)] ∧ w0.heap.size ≤ b100 ∧ Chg [] w0 w' := by
 have L0 := F0.low
 have hB : Chg [] w0 w0 := Chg.refl _ _
 have hZ := Nat.le_refl w0.heap.size
 unfold m_spec_l00From at hm
 refine enterE (N := 6) Tryz.func17 (by rfl) Tryz.ntmps17 (by simp) [(0, .slice A0 (l0).length cap0)] (by rfl) (by kernel_rfl) (fun a => ?_)
 refine cW_seq ?_
 refine cW_region ?_
 refine wS_pure 1 [(2, .pointer none)] (by kernel_rfl) ?_
 refine wS_end (by rfl) ?_
 refine eX_then ?_
 refine cW_seq ?_
 refine cW_region ?_
 refine wS_pure 2 [(4, .agg #[.slice A0 (l0).length cap0, .int .i64 (0), .int .u64 (0)]), (3, .slice A0 (l0).length cap0)] (by kernel_rfl) ?_
 refine wS_box (d := 5) (T := 61) (x := .agg #[.slice A0 (l0).length cap0, .int .i64 (0), .int .u64 (0)]) (by kernel_rfl) ?_
 intro b1 w1 G1 F1 hc1
 replace F1 : Cl w1 b1 61 [.slice A0 (l0).length cap0, .int .i64 (0), .int .u64 (0)] := F1
 replace F0 := F0.chg hc1 Dj.nil
 replace hB := hB.inS hc1 inNil
 replace G1 := Nat.le_trans hZ G1
 replace hZ := Nat.le_trans hZ hc1.size
 refine wS_pure 1 [(2, .pointer (some ⟨b1, 0, none⟩))] (by kernel_rfl) ?_
 refine wS_end (by rfl) ?_
 refine eX_then ?_
 refine cW_ret ?_
 have hq : (some ((0, 0)) : Option ((Int × Int))) = some _ := hm
 replace hq := someE hq
 subst hq
 refine eX_ret (vs := [.pointer (some ⟨b1, 0, none⟩)]) [.tmp 2] (by rfl) ⟨by (show lkE _ _ _ = _); kernel_rfl, trivial⟩ ?_
 exact ⟨b1, rfl, F1, G1, hB⟩

set_option maxRecDepth 100000 in
/-- spec.l00Src).next -/
theorem c_spec_l00Src_next_bspecl00Src {w0 : World} {l0_0 : List (Int)} {A0_0 : Option Addr} {cap0_0 : Nat} {fp0_0 : List Nat} {q0_1 : Int} {q0_2 : Int} {b0 : Nat} {r : (Int) × (Int) × (Int)} (hm : m_spec_l00Src_next_bspecl00Src l0_0 q0_1 q0_2 = some r) (F0_0 : Sl 1 encU w0 fp0_0 A0_0 l0_0) (F0 : Cl w0 b0 61 [.slice A0_0 (l0_0).length cap0_0, .int .i64 (q0_1), .int .u64 (q0_2)]) (J0__0_0 : Dj [b0] fp0_0) :
  Calls Tryz.prog 32 #[.pointer (some ⟨b0, 0, none⟩)] w0 fun e w' => e = .returned (.int .i64 (r.1)) ∧ Cl w' b0 61 [.slice A0_0 (l0_0).length cap0_0, .int .i64 (r.2.1), .int .u64 (r.2.2)] ∧ Chg ([b0] ++ []) w0 w' := by
 have L0_0 := F0_0.low
 have L0 := lt1 F0.lt
 have hB : Chg ([b0] ++ []) w0 w0 := Chg.refl _ _
 have hZ := Nat.le_refl w0.heap.size
 unfold m_spec_l00Src_next_bspecl00Src at hm
 refine enterE (N := 62) Tryz.func32 (by rfl) Tryz.ntmps32 (by simp) [(0, .pointer (some ⟨b0, 0, none⟩))] (by rfl) (by kernel_rfl) (fun a => ?_)
 refine cW_seq ?_
 refine cW_region ?_
 refine wS_pure 1 [(2, .int .i64 (0))] (by kernel_rfl) ?_
 refine wS_end (by rfl) ?_
 refine eX_then ?_
 refine cW_seq ?_
 refine cW_region ?_
 refine wS_pure 1 [(3, .int .i64 (0))] (by kernel_rfl) ?_
 refine wS_end (by rfl) ?_
 refine eX_then ?_
 refine cW_seq ?_
 obtain ⟨s1, hs1, hm⟩ := bindE hm
 refine cW_cut (fun a' w' => ∃ x1 : Int, x1 = s1 ∧ Fr 62 [(0, .pointer (some ⟨b0, 0, none⟩)), (3, .int .i64 (x1))] a' ∧ Sl 1 encU w' fp0_0 A0_0 l0_0 ∧ Cl w' b0 61 [.slice A0_0 (l0_0).length cap0_0, .int .i64 (q0_1), .int .u64 (q0_2)] ∧ Chg ([b0] ++ []) w0 w' ∧ w0.heap.size ≤ w'.heap.size) ?_ ?_
 ·have hm := hs1
  refine cW_seq ?_
  refine cW_drawnTail [] 9 (by kernel_rfl) (by kernel_rfl) (fun w1 hc1 => ?_)
  replace F0_0 := F0_0.chg hc1 Dj.nil
  replace F0 := F0.chg hc1 notNil
  replace hB := hB.inS hc1 inNil
  replace hZ := Nat.le_trans hZ hc1.size
  have hS := Chg.refl [] w1
  have Z1 := F0_0
  have Z2 := F0
  refine wH_take [0, 1, 2] [2, 1, 0] [(6, .pointer (some ⟨b0, 1, none⟩)), (5, .pointer (some ⟨b0, 0, none⟩)), (4, .pointer (some ⟨b0, 0, none⟩))] (by kernel_rfl) (qT (qT (qT (qT qZ)))) (by kernel_rfl) ?_
  refine wH_load1 (i := 3) (d := 7) (T := 3) (ad := ⟨b0, 1, none⟩) (v := .int .i64 (q0_1)) (by kernel_rfl) (qT (qT (qT (qT qZ)))) (by kernel_rfl) (by kernel_rfl) vt3 (fun W hW => (Z2.chg hW notNil).cell 1) ?_
  refine wH_take [4, 5, 6] [6, 5, 4, 3, 2, 1, 0] [(10, .pointer (some ⟨b0, 0, none⟩)), (9, .pointer (some ⟨b0, 0, none⟩)), (8, .pointer (some ⟨b0, 0, none⟩))] (by kernel_rfl) (qT (qT (qT (qT qZ)))) (by kernel_rfl) ?_
  refine wH_load1 (i := 7) (d := 11) (T := 22) (ad := ⟨b0, 0, none⟩) (v := .slice A0_0 (l0_0).length cap0_0) (by kernel_rfl) (qT (qT (qT (qT qZ)))) (by kernel_rfl) (by kernel_rfl) vt22 (fun W hW => (Z2.chg hW notNil).cell 0) ?_
  refine wH_take [8] [8, 7, 6, 5, 4, 3, 2, 1, 0] [(12, .int .i64 (((l0_0).length : Int)))] (by kernel_rfl) (qT (qT (qT (qT qZ)))) (by kernel_rfl) ?_
  refine wH_done (by kernel_rfl) ?_
  refine eX_tail ?_
  refine wS_pure 1 [(13, .bool (decide (q0_1 < (((l0_0).length : Int)))))] (by kernel_rfl) ?_
  refine wS_end (by rfl) ?_
  refine eX_then ?_
  refine cW_cond (t := decide (q0_1 < (((l0_0).length : Int)))) (by kernel_rfl) (fun hb1 => ?_) (fun hb1 => ?_)
  ·have hm := condT hb1 hm
   refine cW_drawnTail [] 8 (by kernel_rfl) (by kernel_rfl) (fun w2 hc2 => ?_)
   replace F0_0 := F0_0.chg hc2 Dj.nil
   replace F0 := F0.chg hc2 notNil
   replace hB := hB.inS hc2 inNil
   replace hZ := Nat.le_trans hZ hc2.size
   have hS := Chg.refl [] w2
   have Z3 := F0_0
   have Z4 := F0
   refine wH_take [0, 1, 2] [2, 1, 0] [(16, .pointer (some ⟨b0, 0, none⟩)), (15, .pointer (some ⟨b0, 0, none⟩)), (14, .pointer (some ⟨b0, 0, none⟩))] (by kernel_rfl) (qT (qT (qT qZ))) (by kernel_rfl) ?_
   refine wH_load1 (i := 3) (d := 17) (T := 22) (ad := ⟨b0, 0, none⟩) (v := .slice A0_0 (l0_0).length cap0_0) (by kernel_rfl) (qT (qT (qT qZ))) (by kernel_rfl) (by kernel_rfl) vt22 (fun W hW => (Z4.chg hW notNil).cell 0) ?_
   refine wH_take [4, 5, 6] [6, 5, 4, 3, 2, 1, 0] [(20, .pointer (some ⟨b0, 1, none⟩)), (19, .pointer (some ⟨b0, 0, none⟩)), (18, .pointer (some ⟨b0, 0, none⟩))] (by kernel_rfl) (qT (qT (qT qZ))) (by kernel_rfl) ?_
   refine wH_load1 (i := 7) (d := 21) (T := 3) (ad := ⟨b0, 1, none⟩) (v := .int .i64 (q0_1)) (by kernel_rfl) (qT (qT (qT qZ))) (by kernel_rfl) (by kernel_rfl) vt3 (fun W hW => (Z4.chg hW notNil).cell 1) ?_
   refine wH_done (by kernel_rfl) ?_
   refine eX_tail ?_
   obtain ⟨x2, hx1, hm⟩ := bindE hm
   refine wS_idx (d := 22) (T := 22) (A := A0_0) (n := (l0_0).length) (cap := cap0_0) (kd := .i64) (m := q0_1) (by kernel_rfl) sl22 (F0_0.is hx1) ?_
   refine wS_load1 (d := 23) (T := 5) (ad := (elA A0_0 1 (q0_1) 0)) (v := .int .u8 (x2)) (by kernel_rfl) vt5 (Sl.cell F0_0 hx1 0 (by rfl)) ?_
   refine wS_pure 2 [(3, .int .i64 (wr x2)), (24, .int .i64 (wr x2))] (by kernel_rfl) ?_
   refine wS_end (by rfl) ?_
   have hq : (some (wr x2) : Option (Int)) = some _ := hm
   replace hq := someE hq
   subst hq
   exact eX_J (fun hst => ⟨wr x2, rfl, Fr.of hst (by kernel_rfl), F0_0, F0, hB, hZ⟩)
  ·have hm := condF hb1 hm
   refine cW_skip ?_
   have hq : (some 0 : Option (Int)) = some _ := hm
   replace hq := someE hq
   subst hq
   exact eX_J (fun hst => ⟨0, rfl, Fr.of hst (by kernel_rfl), F0_0, F0, hB, hZ⟩)
 ·rintro a' w3 ⟨x1, hJ, hF1, F1, F2, hB, hZ⟩
  subst hJ
  refine Fr.goX hF1 (by kernel_rfl) ?_
  refine eX_then ?_
  refine cW_seq ?_
  refine cW_region ?_
  refine wS_pure 3 [(27, .pointer (some ⟨b0, 1, none⟩)), (26, .pointer (some ⟨b0, 0, none⟩)), (25, .pointer (some ⟨b0, 0, none⟩))] (by kernel_rfl) ?_
  refine wS_load1 (d := 28) (T := 3) (ad := ⟨b0, 1, none⟩) (v := .int .i64 (q0_1)) (by kernel_rfl) vt3 ((F2).cell 1) ?_
  refine wS_pure 3 [(31, .pointer (some ⟨b0, 1, none⟩)), (30, .pointer (some ⟨b0, 0, none⟩)), (29, .int .i64 (wr (q0_1 + 1)))] (by kernel_rfl) ?_
  refine wS_store (T := 3) (g := b0) (o := 1) (ad := ⟨b0, 1, none⟩) (v := .int .i64 (wr (q0_1 + 1))) (vs := [.int .i64 (wr (q0_1 + 1))]) (by kernel_rfl) (by rfl) sz3 (by rfl) (by rfl) F2 (by simp only [List.length_cons, List.length_nil]; omega) ?_
  intro w4 F3 hc3
  replace F1 := F1.chg hc3 (J0__0_0).symm
  replace hB := hB.inS hc3 (inMem (fun x hx => (List.mem_append_left _ hx)))
  replace hZ := Nat.le_trans hZ hc3.size
  replace F3 : Cl w4 b0 61 [.slice A0_0 (l0_0).length cap0_0, .int .i64 (wr (q0_1 + 1)), .int .u64 (q0_2)] := F3
  clear F2
  refine wS_end (by rfl) ?_
  refine eX_then ?_
  refine cW_seq ?_
  refine cW_region ?_
  refine wS_pure 4 [(35, .pointer (some ⟨b0, 2, none⟩)), (34, .pointer (some ⟨b0, 0, none⟩)), (33, .pointer (some ⟨b0, 0, none⟩)), (32, .pointer (some ⟨b0, 0, none⟩))] (by kernel_rfl) ?_
  refine wS_load1 (d := 36) (T := 59) (ad := ⟨b0, 2, none⟩) (v := .int .u64 (q0_2)) (by kernel_rfl) vt59 ((F3).cell 2) ?_
  refine wS_pure 7 [(43, .pointer (some ⟨b0, 2, none⟩)), (42, .pointer (some ⟨b0, 0, none⟩)), (41, .int .u64 (wu ((wu ((wu (q0_2 * 6364136223846793005)) + (wu x1))) + 1442695040888963407))), (40, .int .u64 (wu ((wu (q0_2 * 6364136223846793005)) + (wu x1)))), (39, .int .u64 (wu x1)), (38, .int .i64 (x1)), (37, .int .u64 (wu (q0_2 * 6364136223846793005)))] (by kernel_rfl) ?_
  refine wS_store (T := 59) (g := b0) (o := 2) (ad := ⟨b0, 2, none⟩) (v := .int .u64 (wu ((wu ((wu (q0_2 * 6364136223846793005)) + (wu x1))) + 1442695040888963407))) (vs := [.int .u64 (wu ((wu ((wu (q0_2 * 6364136223846793005)) + (wu x1))) + 1442695040888963407))]) (by kernel_rfl) (by rfl) sz59 (by rfl) (by rfl) F3 (by simp only [List.length_cons, List.length_nil]; omega) ?_
  intro w5 F4 hc4
  replace F1 := F1.chg hc4 (J0__0_0).symm
  replace hB := hB.inS hc4 (inMem (fun x hx => (List.mem_append_left _ hx)))
  replace hZ := Nat.le_trans hZ hc4.size
  replace F4 : Cl w5 b0 61 [.slice A0_0 (l0_0).length cap0_0, .int .i64 (wr (q0_1 + 1)), .int .u64 (wu ((wu ((wu (q0_2 * 6364136223846793005)) + (wu x1))) + 1442695040888963407))] := F4
  clear F3
  refine wS_end (by rfl) ?_
  refine eX_then ?_
  refine cW_seq ?_
  refine cW_seq ?_
  refine cW_drawnTail [] 9 (by kernel_rfl) (by kernel_rfl) (fun w6 hc5 => ?_)
  replace F1 := F1.chg hc5 Dj.nil
  replace F4 := F4.chg hc5 notNil
  replace hB := hB.inS hc5 inNil
  replace hZ := Nat.le_trans hZ hc5.size
  have hS := Chg.refl [] w6
  have Z5 := F1
  have Z6 := F4
  refine wH_take [0, 1, 2] [2, 1, 0] [(46, .pointer (some ⟨b0, 1, none⟩)), (45, .pointer (some ⟨b0, 0, none⟩)), (44, .pointer (some ⟨b0, 0, none⟩))] (by kernel_rfl) (qT (qT (qT qZ))) (by kernel_rfl) ?_
  refine wH_load1 (i := 3) (d := 47) (T := 3) (ad := ⟨b0, 1, none⟩) (v := .int .i64 (wr (q0_1 + 1))) (by kernel_rfl) (qT (qT (qT qZ))) (by kernel_rfl) (by kernel_rfl) vt3 (fun W hW => (Z6.chg hW notNil).cell 1) ?_
  refine wH_take [4, 5, 6] [6, 5, 4, 3, 2, 1, 0] [(50, .pointer (some ⟨b0, 0, none⟩)), (49, .pointer (some ⟨b0, 0, none⟩)), (48, .pointer (some ⟨b0, 0, none⟩))] (by kernel_rfl) (qT (qT (qT qZ))) (by kernel_rfl) ?_
  refine wH_load1 (i := 7) (d := 51) (T := 22) (ad := ⟨b0, 0, none⟩) (v := .slice A0_0 (l0_0).length cap0_0) (by kernel_rfl) (qT (qT (qT qZ))) (by kernel_rfl) (by kernel_rfl) vt22 (fun W hW => (Z6.chg hW notNil).cell 0) ?_
  refine wH_take [8] [8, 7, 6, 5, 4, 3, 2, 1, 0] [(52, .int .i64 (((l0_0).length : Int)))] (by kernel_rfl) (qT (qT (qT qZ))) (by kernel_rfl) ?_
  refine wH_done (by kernel_rfl) ?_
  refine eX_tail ?_
  refine wS_pure 1 [(53, .bool (decide ((wr (q0_1 + 1)) ≤ (((l0_0).length : Int)))))] (by kernel_rfl) ?_
  refine wS_end (by rfl) ?_
  refine eX_then ?_
  refine cW_prune [(0, .pointer (some ⟨b0, 0, none⟩)), (3, .int .i64 (x1)), (53, .bool (decide ((wr (q0_1 + 1)) ≤ (((l0_0).length : Int)))))] (by kernel_rfl) (by kernel_rfl) (fun a1 => ?_)
  refine cW_cond (t := decide ((wr (q0_1 + 1)) ≤ (((l0_0).length : Int)))) (by kernel_rfl) (fun hb2 => ?_) (fun hb2 => ?_)
  ·have hm := condT hb2 hm
   refine cW_seq ?_
   refine cW_region ?_
   refine wS_pure 2 [(2, .int .i64 (x1)), (54, .int .i64 (x1))] (by kernel_rfl) ?_
   refine wS_end (by rfl) ?_
   refine eX_then ?_
   refine cW_ret ?_
   refine eX_then_ret ?_
   have hq : (some ((x1, wr (q0_1 + 1), wu ((wu ((wu (q0_2 * 6364136223846793005)) + (wu x1))) + 1442695040888963407))) : Option ((Int) × (Int) × (Int))) = some _ := hm
   replace hq := someE hq
   subst hq
   refine eX_ret (vs := [.int .i64 (x1)]) [.tmp 2] (by rfl) ⟨by (show lkE _ _ _ = _); kernel_rfl, trivial⟩ ?_
   exact ⟨rfl, F4, hB⟩
  ·have hm := condF hb2 hm
   refine cW_skip ?_
   refine eX_then ?_
   refine cW_seq ?_
   refine cW_region ?_
   refine wS_pure 3 [(57, .pointer (some ⟨b0, 2, none⟩)), (56, .pointer (some ⟨b0, 0, none⟩)), (55, .pointer (some ⟨b0, 0, none⟩))] (by kernel_rfl) ?_
   refine wS_load1 (d := 58) (T := 59) (ad := ⟨b0, 2, none⟩) (v := .int .u64 (wu ((wu ((wu (q0_2 * 6364136223846793005)) + (wu x1))) + 1442695040888963407))) (by kernel_rfl) vt59 ((F4).cell 2) ?_
   refine wS_pure 4 [(2, .int .i64 (wr (andU (shrU (wu ((wu ((wu (q0_2 * 6364136223846793005)) + (wu x1))) + 1442695040888963407)) 40) 255))), (61, .int .i64 (wr (andU (shrU (wu ((wu ((wu (q0_2 * 6364136223846793005)) + (wu x1))) + 1442695040888963407)) 40) 255))), (60, .int .u64 (andU (shrU (wu ((wu ((wu (q0_2 * 6364136223846793005)) + (wu x1))) + 1442695040888963407)) 40) 255)), (59, .int .u64 (shrU (wu ((wu ((wu (q0_2 * 6364136223846793005)) + (wu x1))) + 1442695040888963407)) 40))] (by kernel_rfl) ?_
   refine wS_end (by rfl) ?_
   refine eX_then ?_
   refine cW_ret ?_
   have hq : (some ((wr (andU (shrU (wu ((wu ((wu (q0_2 * 6364136223846793005)) + (wu x1))) + 1442695040888963407)) 40) 255), wr (q0_1 + 1), wu ((wu ((wu (q0_2 * 6364136223846793005)) + (wu x1))) + 1442695040888963407))) : Option ((Int) × (Int) × (Int))) = some _ := hm
   replace hq := someE hq
   subst hq
   refine eX_ret (vs := [.int .i64 (wr (andU (shrU (wu ((wu ((wu (q0_2 * 6364136223846793005)) + (wu x1))) + 1442695040888963407)) 40) 255))]) [.tmp 2] (by rfl) ⟨by (show lkE _ _ _ = _); kernel_rfl, trivial⟩ ?_
   exact ⟨rfl, F4, hB⟩

set_option maxRecDepth 100000 in
/-- spec.l00Src).pick -/
theorem c_spec_l00Src_pick_bspecl00Src {w0 : World} {l0_0 : List (Int)} {A0_0 : Option Addr} {cap0_0 : Nat} {fp0_0 : List Nat} {q0_1 : Int} {q0_2 : Int} {b0 : Nat} {p1 : Int} {r : (Int) × (Int) × (Int)} (hm : m_spec_l00Src_pick_bspecl00Src l0_0 q0_1 q0_2 p1 = some r) (F0_0 : Sl 1 encU w0 fp0_0 A0_0 l0_0) (F0 : Cl w0 b0 61 [.slice A0_0 (l0_0).length cap0_0, .int .i64 (q0_1), .int .u64 (q0_2)]) (J0__0_0 : Dj [b0] fp0_0) :
  Calls Tryz.prog 18 #[.pointer (some ⟨b0, 0, none⟩), .int .i64 (p1)] w0 fun e w' => e = .returned (.int .i64 (r.1)) ∧ Cl w' b0 61 [.slice A0_0 (l0_0).length cap0_0, .int .i64 (r.2.1), .int .u64 (r.2.2)] ∧ Chg ([b0] ++ []) w0 w' := by
 have L0_0 := F0_0.low
 have L0 := lt1 F0.lt
 have hB : Chg ([b0] ++ []) w0 w0 := Chg.refl _ _
 have hZ := Nat.le_refl w0.heap.size
 unfold m_spec_l00Src_pick_bspecl00Src at hm
 refine enterE (N := 20) Tryz.func18 (by rfl) Tryz.ntmps18 (by simp) [(0, .pointer (some ⟨b0, 0, none⟩)), (1, .int .i64 (p1))] (by rfl) (by kernel_rfl) (fun a => ?_)
 refine cW_seq ?_
 refine cW_region ?_
 refine wS_pure 1 [(4, .int .i64 (0))] (by kernel_rfl) ?_
 refine wS_end (by rfl) ?_
 refine eX_then ?_
 refine cW_seq ?_
 refine cW_seq ?_
 refine cW_region ?_
 refine wS_pure 2 [(7, .bool (decide (p1 ≤ 1))), (6, .int .i64 (p1))] (by kernel_rfl) ?_
 refine wS_end (by rfl) ?_
 refine eX_then ?_
 refine cW_cond (t := decide (p1 ≤ 1)) (by kernel_rfl) (fun hb1 => ?_) (fun hb1 => ?_)
 ·have hm := condT hb1 hm
  refine cW_seq ?_
  refine cW_region ?_
  refine wS_pure 1 [(4, .int .i64 (0))] (by kernel_rfl) ?_
  refine wS_end (by rfl) ?_
  refine eX_then ?_
  refine cW_ret ?_
  refine eX_then_ret ?_
  have hq : (some ((0, q0_1, q0_2)) : Option ((Int) × (Int) × (Int))) = some _ := hm
  replace hq := someE hq
  subst hq
  refine eX_ret (vs := [.int .i64 (0)]) [.tmp 4] (by rfl) ⟨by (show lkE _ _ _ = _); kernel_rfl, trivial⟩ ?_
  exact ⟨rfl, F0, hB⟩
 ·have hm := condF hb1 hm
  refine cW_skip ?_
  refine eX_then ?_
  refine cW_seq ?_
  refine cW_region ?_
  refine wS_pure 1 [(8, .pointer (some ⟨b0, 0, none⟩))] (by kernel_rfl) ?_
  obtain ⟨y1, hy1, hm⟩ := bindE hm
  refine wS_calls (d := 9) (f := 32) (vs := [.pointer (some ⟨b0, 0, none⟩)]) (by kernel_rfl) ent32 (c_spec_l00Src_next_bspecl00Src hy1 F0_0 F0 J0__0_0) ?_
  rintro _ w1 ⟨rfl, F1, hc1⟩
  replace F0_0 := F0_0.chg hc1 (Dj.app (J0__0_0).symm Dj.nil)
  replace hB := hB.inS hc1 (inApp (inMem (fun x hx => (List.mem_append_left _ hx))) inNil)
  replace hZ := Nat.le_trans hZ hc1.size
  clear F0
  refine ⟨.int .i64 (y1.1), rfl, ?_⟩
  refine wS_pure 1 [(5, .int .i64 (y1.1))] (by kernel_rfl) ?_
  refine wS_end (by rfl) ?_
  refine eX_then ?_
  refine cW_seq ?_
  obtain ⟨s1, hs1, hm⟩ := bindE hm
  refine cW_cut (fun a' w' => ∃ x1 : Int, ∃ x2 : Int, ∃ x3 : Int, (x1, x2, x3) = s1 ∧ Fr 20 [(1, .int .i64 (p1)), (5, .int .i64 (x1))] a' ∧ Sl 1 encU w' fp0_0 A0_0 l0_0 ∧ Cl w' b0 61 [.slice A0_0 (l0_0).length cap0_0, .int .i64 (x2), .int .u64 (x3)] ∧ Chg ([b0] ++ []) w0 w' ∧ w0.heap.size ≤ w'.heap.size) ?_ ?_
  ·have hm := hs1
   refine cW_seq ?_
   refine cW_region ?_
   refine wS_pure 2 [(11, .bool (decide (p1 > 200))), (10, .int .i64 (p1))] (by kernel_rfl) ?_
   refine wS_end (by rfl) ?_
   refine eX_then ?_
   refine cW_cond (t := decide (p1 > 200)) (by kernel_rfl) (fun hb2 => ?_) (fun hb2 => ?_)
   ·have hm := condT hb2 hm
    refine cW_region ?_
    refine wS_pure 3 [(14, .pointer (some ⟨b0, 0, none⟩)), (13, .int .i64 (wr (y1.1 * 256))), (12, .int .i64 (y1.1))] (by kernel_rfl) ?_
    obtain ⟨y2, hy2, hm⟩ := bindE hm
    refine wS_calls (d := 15) (f := 32) (vs := [.pointer (some ⟨b0, 0, none⟩)]) (by kernel_rfl) ent32 (c_spec_l00Src_next_bspecl00Src hy2 F0_0 F1 J0__0_0) ?_
    rintro _ w2 ⟨rfl, F2, hc2⟩
    replace F0_0 := F0_0.chg hc2 (Dj.app (J0__0_0).symm Dj.nil)
    replace hB := hB.inS hc2 (inApp (inMem (fun x hx => (List.mem_append_left _ hx))) inNil)
    replace hZ := Nat.le_trans hZ hc2.size
    clear F1
    refine ⟨.int .i64 (y2.1), rfl, ?_⟩
    refine wS_pure 2 [(5, .int .i64 (wr ((wr (y1.1 * 256)) + y2.1))), (16, .int .i64 (wr ((wr (y1.1 * 256)) + y2.1)))] (by kernel_rfl) ?_
    refine wS_end (by rfl) ?_
    have hq : (some ((wr ((wr (y1.1 * 256)) + y2.1), y2.2.1, y2.2.2)) : Option (Int × Int × Int)) = some _ := hm
    replace hq := someE hq
    subst hq
    exact eX_J (fun hst => ⟨wr ((wr (y1.1 * 256)) + y2.1), y2.2.1, y2.2.2, rfl, Fr.of hst (by kernel_rfl), F0_0, F2, hB, hZ⟩)
   ·have hm := condF hb2 hm
    refine cW_skip ?_
    have hq : (some ((y1.1, y1.2.1, y1.2.2)) : Option (Int × Int × Int)) = some _ := hm
    replace hq := someE hq
    subst hq
    exact eX_J (fun hst => ⟨y1.1, y1.2.1, y1.2.2, rfl, Fr.of hst (by kernel_rfl), F0_0, F1, hB, hZ⟩)
  ·rintro a' w3 ⟨x1, x2, x3, hJ, hF1, F3, F4, hB, hZ⟩
   subst hJ
   refine Fr.goX hF1 (by kernel_rfl) ?_
   refine eX_then ?_
   refine cW_seq ?_
   refine cW_region ?_
   refine wS_pure 2 [(18, .int .i64 (p1)), (17, .int .i64 (x1))] (by kernel_rfl) ?_
   obtain ⟨u1, hu1, hm⟩ := bindE hm
   refine wS_rem (d := 19) (x := x1) (y := p1) (by kernel_rfl) (nzE hu1) ?_
   refine wS_pure 1 [(4, .int .i64 (Int.tmod x1 p1))] (by kernel_rfl) ?_
   refine wS_end (by rfl) ?_
   refine eX_then ?_
   refine cW_ret ?_
   have hq : (some ((Int.tmod x1 p1, x2, x3)) : Option ((Int) × (Int) × (Int))) = some _ := hm
   replace hq := someE hq
   subst hq
   refine eX_ret (vs := [.int .i64 (Int.tmod x1 p1)]) [.tmp 4] (by rfl) ⟨by (show lkE _ _ _ = _); kernel_rfl, trivial⟩ ?_
   exact ⟨rfl, F4, hB⟩

set_option maxRecDepth 100000 in
/-- spec.l00Src).one -/
theorem c_spec_l00Src_one_bspecl00Src {w0 : World} {l0_0 : List (Int)} {A0_0 : Option Addr} {cap0_0 : Nat} {fp0_0 : List Nat} {q0_1 : Int} {q0_2 : Int} {b0 : Nat} {p1 : Int} {r : (Bool) × (Int) × (Int)} (hm : m_spec_l00Src_one_bspecl00Src l0_0 q0_1 q0_2 p1 = some r) (F0_0 : Sl 1 encU w0 fp0_0 A0_0 l0_0) (F0 : Cl w0 b0 61 [.slice A0_0 (l0_0).length cap0_0, .int .i64 (q0_1), .int .u64 (q0_2)]) (J0__0_0 : Dj [b0] fp0_0) :
  Calls Tryz.prog 33 #[.pointer (some ⟨b0, 0, none⟩), .int .i64 (p1)] w0 fun e w' => e = .returned (.bool (r.1)) ∧ Cl w' b0 61 [.slice A0_0 (l0_0).length cap0_0, .int .i64 (r.2.1), .int .u64 (r.2.2)] ∧ Chg ([b0] ++ []) w0 w' := by
 have L0_0 := F0_0.low
 have L0 := lt1 F0.lt
 have hB : Chg ([b0] ++ []) w0 w0 := Chg.refl _ _
 have hZ := Nat.le_refl w0.heap.size
 unfold m_spec_l00Src_one_bspecl00Src at hm
 refine enterE (N := 9) Tryz.func33 (by rfl) Tryz.ntmps33 (by simp) [(0, .pointer (some ⟨b0, 0, none⟩)), (1, .int .i64 (p1))] (by rfl) (by kernel_rfl) (fun a => ?_)
 refine cW_seq ?_
 refine cW_region ?_
 refine wS_pure 1 [(4, .bool (false))] (by kernel_rfl) ?_
 refine wS_end (by rfl) ?_
 refine eX_then ?_
 refine cW_seq ?_
 refine cW_region ?_
 refine wS_pure 2 [(6, .int .i64 (p1)), (5, .pointer (some ⟨b0, 0, none⟩))] (by kernel_rfl) ?_
 obtain ⟨y1, hy1, hm⟩ := bindE hm
 refine wS_calls (d := 7) (f := 18) (vs := [.pointer (some ⟨b0, 0, none⟩), .int .i64 (p1)]) (by kernel_rfl) ent18 (c_spec_l00Src_pick_bspecl00Src hy1 F0_0 F0 J0__0_0) ?_
 rintro _ w1 ⟨rfl, F1, hc1⟩
 replace F0_0 := F0_0.chg hc1 (Dj.app (J0__0_0).symm Dj.nil)
 replace hB := hB.inS hc1 (inApp (inMem (fun x hx => (List.mem_append_left _ hx))) inNil)
 replace hZ := Nat.le_trans hZ hc1.size
 clear F0
 refine ⟨.int .i64 (y1.1), rfl, ?_⟩
 refine wS_pure 2 [(4, .bool (y1.1 == 0)), (8, .bool (y1.1 == 0))] (by kernel_rfl) ?_
 refine wS_end (by rfl) ?_
 refine eX_then ?_
 refine cW_ret ?_
 have hq : (some ((y1.1 == 0, y1.2.1, y1.2.2)) : Option ((Bool) × (Int) × (Int))) = some _ := hm
 replace hq := someE hq
 subst hq
 refine eX_ret (vs := [.bool (y1.1 == 0)]) [.tmp 4] (by rfl) ⟨by (show lkE _ _ _ = _); kernel_rfl, trivial⟩ ?_
 exact ⟨rfl, F1, hB⟩

set_option maxRecDepth 100000 in
/-- spec.l01DrawGood -/
theorem c_spec_l01DrawGood_bspecl00Src {w0 : World} {l0_0 : List (Int)} {A0_0 : Option Addr} {cap0_0 : Nat} {fp0_0 : List Nat} {q0_1 : Int} {q0_2 : Int} {b0 : Nat} {r : (Int × Int) × (Int) × (Int)} (hm : m_spec_l01DrawGood_bspecl00Src l0_0 q0_1 q0_2 = some r) (F0_0 : Sl 1 encU w0 fp0_0 A0_0 l0_0) (F0 : Cl w0 b0 61 [.slice A0_0 (l0_0).length cap0_0, .int .i64 (q0_1), .int .u64 (q0_2)]) (J0__0_0 : Dj [b0] fp0_0) :
  Calls Tryz.prog 19 #[.pointer (some ⟨b0, 0, none⟩)] w0 fun e w' => e = .returned (.agg #[.int .i64 (r.1.1), .int .i64 (r.1.2)]) ∧ Cl w' b0 61 [.slice A0_0 (l0_0).length cap0_0, .int .i64 (r.2.1), .int .u64 (r.2.2)] ∧ Chg ([b0] ++ []) w0 w' := by
 have L0_0 := F0_0.low
 have L0 := lt1 F0.lt
 have hB : Chg ([b0] ++ []) w0 w0 := Chg.refl _ _
 have hZ := Nat.le_refl w0.heap.size
 unfold m_spec_l01DrawGood_bspecl00Src at hm
 refine enterE (N := 16) Tryz.func19 (by rfl) Tryz.ntmps19 (by simp) [(0, .pointer (some ⟨b0, 0, none⟩))] (by rfl) (by kernel_rfl) (fun a => ?_)
 refine cW_seq ?_
 refine cW_region ?_
 refine wS_alloc (d := 2) (T := 27) (z := .agg #[.int .i64 (0), .int .i64 (0)]) (by kernel_rfl) (by kernel_rfl) ?_
 intro b1 w1 G1 F1 hc1
 replace F1 : Cl w1 b1 27 [.int .i64 (0), .int .i64 (0)] := F1
 replace F0_0 := F0_0.chg hc1 Dj.nil
 replace F0 := F0.chg hc1 notNil
 replace hB := hB.inS hc1 inNil
 replace G1 := Nat.le_trans hZ G1
 replace hZ := Nat.le_trans hZ hc1.size
 refine wS_end (by rfl) ?_
 refine eX_then ?_
 refine cW_seq ?_
 refine cW_region ?_
 refine wS_pure 1 [(3, .int .i64 (10))] (by kernel_rfl) ?_
 refine wS_end (by rfl) ?_
 refine eX_then ?_
 refine cW_seq ?_
 obtain ⟨s1, hs1, hm⟩ := bindE hm
 refine cW_cut (fun a' w' => ∃ x1 : Int, ∃ x2 : Int, ∃ x3 : Int, (x1, x2, x3) = s1 ∧ Fr 16 [(0, .pointer (some ⟨b0, 0, none⟩)), (2, .pointer (some ⟨b1, 0, none⟩)), (3, .int .i64 (x1))] a' ∧ Sl 1 encU w' fp0_0 A0_0 l0_0 ∧ Cl w' b0 61 [.slice A0_0 (l0_0).length cap0_0, .int .i64 (x2), .int .u64 (x3)] ∧ Cl w' b1 27 [.int .i64 (0), .int .i64 (0)] ∧ Chg ([b0] ++ []) w0 w' ∧ w0.heap.size ≤ w'.heap.size) ?_ ?_
 ·have hm := hs1
  refine cW_seq ?_
  refine cW_region ?_
  refine wS_pure 1 [(5, .pointer (some ⟨b0, 0, none⟩))] (by kernel_rfl) ?_
  obtain ⟨y1, hy1, hm⟩ := bindE hm
  refine wS_calls (d := 6) (f := 33) (vs := [.pointer (some ⟨b0, 0, none⟩), .int .i64 (8)]) (by kernel_rfl) ent33 (c_spec_l00Src_one_bspecl00Src hy1 F0_0 F0 J0__0_0) ?_
  rintro _ w2 ⟨rfl, F2, hc2⟩
  replace F0_0 := F0_0.chg hc2 (Dj.app (J0__0_0).symm Dj.nil)
  replace F1 := F1.chg hc2 (dj1 (Dj.app (Dj.of L0 (low1 G1)).symm Dj.nil))
  replace hB := hB.inS hc2 (inApp (inMem (fun x hx => (List.mem_append_left _ hx))) inNil)
  replace hZ := Nat.le_trans hZ hc2.size
  clear F0
  refine ⟨.bool (y1.1), rfl, ?_⟩
  refine wS_end (by rfl) ?_
  refine eX_then ?_
  refine cW_cond (t := y1.1) (by kernel_rfl) (fun hb1 => ?_) (fun hb1 => ?_)
  ·have hm := condT hb1 hm
   refine cW_region ?_
   refine wS_pure 1 [(3, .int .i64 (100))] (by kernel_rfl) ?_
   refine wS_end (by rfl) ?_
   have hq : (some ((100, y1.2.1, y1.2.2)) : Option (Int × Int × Int)) = some _ := hm
   replace hq := someE hq
   subst hq
   exact eX_J (fun hst => ⟨100, y1.2.1, y1.2.2, rfl, Fr.of hst (by kernel_rfl), F0_0, F2, F1, hB, hZ⟩)
  ·have hm := condF hb1 hm
   refine cW_skip ?_
   have hq : (some ((10, y1.2.1, y1.2.2)) : Option (Int × Int × Int)) = some _ := hm
   replace hq := someE hq
   subst hq
   exact eX_J (fun hst => ⟨10, y1.2.1, y1.2.2, rfl, Fr.of hst (by kernel_rfl), F0_0, F2, F1, hB, hZ⟩)
 ·rintro a' w3 ⟨x1, x2, x3, hJ, hF1, F3, F4, F5, hB, hZ⟩
  subst hJ
  refine Fr.goX hF1 (by kernel_rfl) ?_
  refine eX_then ?_
  refine cW_seq ?_
  refine cW_region ?_
  refine wS_pure 2 [(8, .int .i64 (x1)), (7, .pointer (some ⟨b0, 0, none⟩))] (by kernel_rfl) ?_
  obtain ⟨y2, hy2, hm⟩ := bindE hm
  refine wS_calls (d := 9) (f := 18) (vs := [.pointer (some ⟨b0, 0, none⟩), .int .i64 (x1)]) (by kernel_rfl) ent18 (c_spec_l00Src_pick_bspecl00Src hy2 F3 F4 J0__0_0) ?_
  rintro _ w4 ⟨rfl, F6, hc3⟩
  replace F3 := F3.chg hc3 (Dj.app (J0__0_0).symm Dj.nil)
  replace F5 := F5.chg hc3 (dj1 (Dj.app (Dj.of L0 (low1 G1)).symm Dj.nil))
  replace hB := hB.inS hc3 (inApp (inMem (fun x hx => (List.mem_append_left _ hx))) inNil)
  replace hZ := Nat.le_trans hZ hc3.size
  clear F4
  refine ⟨.int .i64 (y2.1), rfl, ?_⟩
  refine wS_pure 1 [(10, .agg #[.int .i64 (y2.1), .int .i64 (0)])] (by kernel_rfl) ?_
  refine wS_alloc (d := 4) (T := 27) (z := .agg #[.int .i64 (0), .int .i64 (0)]) (by kernel_rfl) (by kernel_rfl) ?_
  intro b2 w5 G2 F7 hc4
  replace F7 : Cl w5 b2 27 [.int .i64 (0), .int .i64 (0)] := F7
  have D1 : Dj [b1] [b2] := Dj.of (lt1 F5.lt) (low1 G2)
  replace F3 := F3.chg hc4 Dj.nil
  replace F6 := F6.chg hc4 notNil
  replace F5 := F5.chg hc4 notNil
  replace hB := hB.inS hc4 inNil
  replace G2 := Nat.le_trans hZ G2
  replace hZ := Nat.le_trans hZ hc4.size
  refine wS_store (T := 27) (g := b2) (o := 0) (ad := ⟨b2, 0, none⟩) (v := .agg #[.int .i64 (y2.1), .int .i64 (0)]) (vs := [.int .i64 (y2.1), .int .i64 (0)]) (by kernel_rfl) (by rfl) sz27 (by rfl) (by rfl) F7 (by simp only [List.length_cons, List.length_nil]; omega) ?_
  intro w6 F8 hc5
  replace F3 := F3.chg hc5 (Dj.of L0_0 (low1 G2))
  replace F6 := F6.chg hc5 (dj1 (Dj.of L0 (low1 G2)))
  replace F5 := F5.chg hc5 (dj1 D1)
  replace hB := hB.inS hc5 (inLow (low1 G2))
  replace hZ := Nat.le_trans hZ hc5.size
  replace F8 : Cl w6 b2 27 [.int .i64 (y2.1), .int .i64 (0)] := F8
  clear F7
  refine wS_end (by rfl) ?_
  refine eX_then ?_
  refine cW_seq ?_
  refine cW_region ?_
  refine wS_pure 2 [(12, .int .i64 (x1)), (11, .pointer (some ⟨b0, 0, none⟩))] (by kernel_rfl) ?_
  obtain ⟨y3, hy3, hm⟩ := bindE hm
  refine wS_calls (d := 13) (f := 18) (vs := [.pointer (some ⟨b0, 0, none⟩), .int .i64 (x1)]) (by kernel_rfl) ent18 (c_spec_l00Src_pick_bspecl00Src hy3 F3 F6 J0__0_0) ?_
  rintro _ w7 ⟨rfl, F9, hc6⟩
  replace F3 := F3.chg hc6 (Dj.app (J0__0_0).symm Dj.nil)
  replace F5 := F5.chg hc6 (dj1 (Dj.app (Dj.of L0 (low1 G1)).symm Dj.nil))
  replace F8 := F8.chg hc6 (dj1 (Dj.app (Dj.of L0 (low1 G2)).symm Dj.nil))
  replace hB := hB.inS hc6 (inApp (inMem (fun x hx => (List.mem_append_left _ hx))) inNil)
  replace hZ := Nat.le_trans hZ hc6.size
  clear F6
  refine ⟨.int .i64 (y3.1), rfl, ?_⟩
  refine wS_pure 1 [(14, .pointer (some ⟨b2, 1, none⟩))] (by kernel_rfl) ?_
  refine wS_store (T := 2) (g := b2) (o := 1) (ad := ⟨b2, 1, none⟩) (v := .int .i64 (y3.1)) (vs := [.int .i64 (y3.1)]) (by kernel_rfl) (by rfl) sz2 (by rfl) (by rfl) F8 (by simp only [List.length_cons, List.length_nil]; omega) ?_
  intro w8 F10 hc7
  replace F3 := F3.chg hc7 (Dj.of L0_0 (low1 G2))
  replace F9 := F9.chg hc7 (dj1 (Dj.of L0 (low1 G2)))
  replace F5 := F5.chg hc7 (dj1 D1)
  replace hB := hB.inS hc7 (inLow (low1 G2))
  replace hZ := Nat.le_trans hZ hc7.size
  replace F10 : Cl w8 b2 27 [.int .i64 (y2.1), .int .i64 (y3.1)] := F10
  clear F8
  refine wS_end (by rfl) ?_
  refine eX_then ?_
  refine cW_seq ?_
  refine cW_region ?_
  refine wS_loadA (d := 15) (T := 27) (ad := ⟨b2, 0, none⟩) (vs := [.int .i64 (y2.1), .int .i64 (y3.1)]) (by kernel_rfl) vt27 (fun i u hu => box_cells F10 0 hu (by rfl)) ?_
  refine wS_store (T := 27) (g := b1) (o := 0) (ad := ⟨b1, 0, none⟩) (v := .agg #[.int .i64 (y2.1), .int .i64 (y3.1)]) (vs := [.int .i64 (y2.1), .int .i64 (y3.1)]) (by kernel_rfl) (by rfl) sz27 (by rfl) (by rfl) F5 (by simp only [List.length_cons, List.length_nil]; omega) ?_
  intro w9 F11 hc8
  replace F3 := F3.chg hc8 (Dj.of L0_0 (low1 G1))
  replace F9 := F9.chg hc8 (dj1 (Dj.of L0 (low1 G1)))
  replace F10 := F10.chg hc8 (dj1 (D1).symm)
  replace hB := hB.inS hc8 (inLow (low1 G1))
  replace hZ := Nat.le_trans hZ hc8.size
  replace F11 : Cl w9 b1 27 [.int .i64 (y2.1), .int .i64 (y3.1)] := F11
  clear F5
  refine wS_end (by rfl) ?_
  refine eX_then ?_
  refine cW_ret ?_
  have hq : (some (((y2.1, y3.1), y3.2.1, y3.2.2)) : Option ((Int × Int) × (Int) × (Int))) = some _ := hm
  replace hq := someE hq
  subst hq
  refine eX_ret (vs := [.agg #[.int .i64 (y2.1), .int .i64 (y3.1)]]) [.cell 2 27] (by rfl) ⟨⟨⟨b1, 0, none⟩, by kernel_rfl, run_loadVarA (vs := [.int .i64 (y2.1), .int .i64 (y3.1)]) vt27 (fun i u hu => by exact box_cells F11 0 hu (by rfl))⟩, trivial⟩ ?_
  exact ⟨rfl, F9, hB⟩

set_option maxRecDepth 100000 in
/-- spec.B10Points -/
theorem c_spec_B10Points {w0 : World} {l0 : List (Int)} {A0 : Option Addr} {cap0 : Nat} {fp0 : List Nat} {r : (List (Int × Int))} (hm : m_spec_B10Points l0 = some r) (F0 : Sl 1 encU w0 fp0 A0 l0) :
  Calls Tryz.prog 5 #[.slice A0 (l0).length cap0] w0 fun e w' => ∃ A100 cap100 fp100, e = .returned (.slice A100 (r).length cap100) ∧ Ow 2 encII 27 w' fp100 A100 cap100 r ∧ (∀ x ∈ fp100, w0.heap.size ≤ x) ∧ Chg [] w0 w' := by
 have L0 := F0.low
 have hB : Chg [] w0 w0 := Chg.refl _ _
 have hZ := Nat.le_refl w0.heap.size
 unfold m_spec_B10Points at hm
 refine enterE (N := 21) Tryz.func5 (by rfl) Tryz.ntmps5 (by simp) [(0, .slice A0 (l0).length cap0)] (by rfl) (by kernel_rfl) (fun a => ?_)
 refine cW_seq ?_
 refine cW_region ?_
 refine wS_pure 1 [(2, .slice none 0 0)] (by kernel_rfl) ?_
 refine wS_end (by rfl) ?_
 refine eX_then ?_
 refine cW_seq ?_
 refine cW_region ?_
 refine wS_pure 1 [(6, .slice A0 (l0).length cap0)] (by kernel_rfl) ?_
 obtain ⟨y1, hy1, hm⟩ := bindE hm
 refine wS_calls (d := 7) (f := 17) (vs := [.slice A0 (l0).length cap0]) (by kernel_rfl) ent17 (c_spec_l00From hy1 F0) ?_
 rintro _ w1 ⟨b1, rfl, F1, G1, hc1⟩
 replace F0 := F0.chg hc1 Dj.nil
 replace hB := hB.inS hc1 inNil
 replace G1 := Nat.le_trans hZ G1
 replace hZ := Nat.le_trans hZ hc1.size
 refine ⟨.pointer (some ⟨b1, 0, none⟩), rfl, ?_⟩
 refine wS_pure 1 [(3, .pointer (some ⟨b1, 0, none⟩))] (by kernel_rfl) ?_
 refine wS_end (by rfl) ?_
 refine eX_then ?_
 refine cW_seq ?_
 refine cW_region ?_
 refine wS_bs0 (α := Int × Int) (enc := encII) (d := 8) (t := 24) (T := 27) (by kernel_rfl) el24 ?_
 intro b2 w2 G2 F2 hc2
 have D1 : Dj [b1] [b2] := Dj.of (lt1 F1.lt) (low1 G2)
 replace F0 := F0.chg hc2 Dj.nil
 replace F1 := F1.chg hc2 notNil
 replace hB := hB.inS hc2 inNil
 replace G2 := Nat.le_trans hZ G2
 replace G2 := low1 G2
 replace hZ := Nat.le_trans hZ hc2.size
 refine wS_pure 1 [(4, .slice (some ⟨b2, 0, none⟩) (([] : List (Int × Int))).length 0)] (by kernel_rfl) ?_
 refine wS_end (by rfl) ?_
 refine eX_then ?_
 refine cW_seq ?_
 refine cW_seq ?_
 refine cW_region ?_
 refine wS_pure 1 [(9, .pointer (some ⟨b1, 0, none⟩))] (by kernel_rfl) ?_
 obtain ⟨y2, hy2, hm⟩ := bindE hm
 refine wS_calls (d := 10) (f := 18) (vs := [.pointer (some ⟨b1, 0, none⟩), .int .i64 (7)]) (by kernel_rfl) ent18 (c_spec_l00Src_pick_bspecl00Src hy2 F0 F1 (Dj.of L0 (low1 G1)).symm) ?_
 rintro _ w3 ⟨rfl, F3, hc3⟩
 replace F0 := F0.chg hc3 (Dj.app (Dj.of L0 (low1 G1)) Dj.nil)
 replace F2 := F2.chg hc3 (Dj.app (D1).symm Dj.nil)
 replace hB := hB.inS hc3 (inApp (inLow (low1 G1)) inNil)
 replace hZ := Nat.le_trans hZ hc3.size
 clear F1
 refine ⟨.int .i64 (y2.1), rfl, ?_⟩
 refine wS_pure 1 [(5, .int .i64 (y2.1))] (by kernel_rfl) ?_
 refine wS_end (by rfl) ?_
 refine eX_then ?_
 obtain ⟨r1, hr1, hm⟩ := bindE hm
 have hm1 := hm
 refine cW_cut (fun a' w' => ∃ l1 : List (Int × Int), ∃ A1 : Option Addr, ∃ cap1 : Nat, ∃ fp1 : List Nat, l1 = r1 ∧ Fr 21 [(4, .slice A1 (l1).length cap1)] a' ∧ Ow 2 encII 27 w' fp1 A1 cap1 l1 ∧ (∀ x ∈ fp1, w0.heap.size ≤ x) ∧ Chg [] w0 w' ∧ w0.heap.size ≤ w'.heap.size) ?_ ?_
 ·refine cW_block ?_
  refine cW_loop _ (fun (s1 : (List (Int × Int)) × Int × Int × Int) a' w' => ∃ l3 : List (Int × Int), ∃ A3 : Option Addr, ∃ cap3 : Nat, ∃ fp2 : List Nat, ∃ x1 : Int, ∃ x2 : Int, ∃ x3 : Int, (l3, x1, x2, x3) = s1 ∧ Fr 21 [(3, .pointer (some ⟨b1, 0, none⟩)), (4, .slice A3 (l3).length cap3), (5, .int .i64 (x1))] a' ∧ Sl 1 encU w' fp0 A0 l0 ∧ Cl w' b1 61 [.slice A0 (l0).length cap0, .int .i64 (x2), .int .u64 (x3)] ∧ Ow 2 encII 27 w' fp2 A3 cap3 l3 ∧ (∀ x ∈ fp2, w0.heap.size ≤ x) ∧ Dj [b1] fp2 ∧ Chg [] w0 w' ∧ w0.heap.size ≤ w'.heap.size) hr1 (fun hst => ⟨([] : List (Int × Int)), (some ⟨b2, 0, none⟩), 0, [b2], y2.1, y2.2.1, y2.2.2, rfl, Fr.of hst (by kernel_rfl), F0, F3, F2, G2, D1, hB, hZ⟩) ?_
  rintro _ c1 a' w4 ⟨l3, A3, cap3, fp2, x1, x2, x3, rfl, hF1, F4, F5, F6, G3, D2, hB, hZ⟩ hx1
  refine Fr.goOn hF1 (by kernel_rfl) ?_
  have hm := hx1
  unfold m_spec_B10Points_s1 at hm
  refine cW_seq ?_
  refine cW_seq ?_
  refine cW_region ?_
  refine wS_pure 2 [(12, .bool (decide (x1 > 0))), (11, .int .i64 (x1))] (by kernel_rfl) ?_
  refine wS_end (by rfl) ?_
  refine eX_then ?_
  refine cW_cond (t := decide (x1 > 0)) (by kernel_rfl) (fun hb1 => ?_) (fun hb1 => ?_)
  ·have hm := condT hb1 hm
   refine cW_skip ?_
   refine eX_then ?_
   refine cW_seq ?_
   refine cW_block ?_
   refine cW_region ?_
   refine wS_pure 2 [(16, .pointer (some ⟨b1, 0, none⟩)), (15, .slice A3 (l3).length cap3)] (by kernel_rfl) ?_
   obtain ⟨y3, hy3, hm⟩ := bindE hm
   refine wS_calls (d := 17) (f := 19) (vs := [.pointer (some ⟨b1, 0, none⟩)]) (by kernel_rfl) ent19 (c_spec_l01DrawGood_bspecl00Src hy3 F4 F5 (Dj.of L0 (low1 G1)).symm) ?_
   rintro _ w5 ⟨rfl, F7, hc4⟩
   replace F4 := F4.chg hc4 (Dj.app (Dj.of L0 (low1 G1)) Dj.nil)
   replace F6 := F6.chg hc4 (Dj.app (D2).symm Dj.nil)
   replace hB := hB.inS hc4 (inApp (inLow (low1 G1)) inNil)
   replace hZ := Nat.le_trans hZ hc4.size
   clear F5
   refine ⟨.agg #[.int .i64 (y3.1.1), .int .i64 (y3.1.2)], rfl, ?_⟩
   refine wS_bs (enc := encII) ([(y3.1.1, y3.1.2)] : List (Int × Int)) [.int .i64 (y3.1.1), .int .i64 (y3.1.2)] (d := 18) (t := 24) (T := 27) (n := 1) (ps := [(0, .agg #[.int .i64 (y3.1.1), .int .i64 (y3.1.2)])]) (by kernel_rfl) el24 encII_ok (by rfl) (by omega) (by omega) (by kernel_rfl) (by rfl) ?_
   intro b3 w6 G4 F8 hc5
   have D3 : Dj [b1] [b3] := Dj.of (lt1 F7.lt) (low1 G4)
   have D4 : Dj fp2 [b3] := Dj.of F6.low (low1 G4)
   replace F4 := F4.chg hc5 Dj.nil
   replace F7 := F7.chg hc5 notNil
   replace F6 := F6.chg hc5 Dj.nil
   replace hB := hB.inS hc5 inNil
   replace G4 := Nat.le_trans hZ G4
   replace G4 := low1 G4
   replace hZ := Nat.le_trans hZ hc5.size
   obtain ⟨_, hk1, hm⟩ := bindE hm
   replace hk1 := apE hk1
   refine wS_append (enc := encII) (l := (l3 : List (Int × Int))) (l2 := (([(y3.1.1, y3.1.2)] : List (Int × Int)) : List (Int × Int))) (d := 19) (t := 24) (T := 27) (A := A3) (A2 := (some ⟨b3, 0, none⟩)) (cap := cap3) (cap2 := 1) (by kernel_rfl) el24 encII_ok F6 (F8.sl encII_ok) (by rfl) hk1 ?_
   intro w7 fp3 A4 cap4 F9 hc6 hp1
   have G5 := low_ap G3 hZ hp1
   have D5 : Dj [b1] fp3 := Dj.ap D2 (lt1 F7.lt) hp1
   have D6 : Dj [b3] fp3 := Dj.ap (D4).symm F8.low hp1
   replace F4 := F4.chg hc6 (Dj.of L0 G3)
   replace F7 := F7.chg hc6 (dj1 D2)
   replace F8 := F8.chg hc6 (D4).symm
   replace hB := hB.inS hc6 (inLow G3)
   replace hZ := Nat.le_trans hZ hc6.size
   refine wS_pure 1 [(4, .slice A4 (l3 ++ (([(y3.1.1, y3.1.2)] : List (Int × Int)))).length cap4)] (by kernel_rfl) ?_
   refine wS_end (by rfl) ?_
   refine eX_block ?_
   refine eX_then ?_
   refine cW_region ?_
   refine wS_pure 3 [(5, .int .i64 (wr (x1 - 1))), (14, .int .i64 (wr (x1 - 1))), (13, .int .i64 (x1))] (by kernel_rfl) ?_
   refine wS_end (by rfl) ?_
   have hq : (some (Ctl.next ((l3 ++ (([(y3.1.1, y3.1.2)] : List (Int × Int))), wr (x1 - 1), y3.2.1, y3.2.2))) : Option (Ctl ((List (Int × Int)) × Int × Int × Int) ((List (Int × Int))))) = some _ := hm
   replace hq := someE hq
   subst hq
   exact eX_next hx1 (fun hst => ⟨l3 ++ (([(y3.1.1, y3.1.2)] : List (Int × Int))), A4, cap4, fp3, wr (x1 - 1), y3.2.1, y3.2.2, rfl, Fr.of hst (by kernel_rfl), F4, F7, F9, G5, D5, hB, hZ⟩)
  ·have hm := condF hb1 hm
   refine cW_exit ?_
   refine eX_then_exit ?_
   have hq : (some (Ctl.out l3) : Option (Ctl ((List (Int × Int)) × Int × Int × Int) ((List (Int × Int))))) = some _ := hm
   replace hq := someE hq
   subst hq
   refine eX_outX hx1 (fun hr2 => ?_)
   replace hr2 := hr2.symm
   subst hr2
   refine eX_block_hit ?_
   exact eX_J (fun hst => ⟨l3, A3, cap3, fp2, rfl, Fr.of hst (by kernel_rfl), F6, G3, hB, hZ⟩)
 ·rintro a' w8 ⟨l1, A1, cap1, fp1, hJ, hF2, F10, G6, hB, hZ⟩
  subst hJ
  refine Fr.goX hF2 (by kernel_rfl) ?_
  refine eX_then ?_
  refine cW_seq ?_
  refine cW_region ?_
  refine wS_pure 2 [(2, .slice A1 (l1).length cap1), (20, .slice A1 (l1).length cap1)] (by kernel_rfl) ?_
  refine wS_end (by rfl) ?_
  refine eX_then ?_
  refine cW_ret ?_
  have hq : (some l1 : Option ((List (Int × Int)))) = some _ := hm
  replace hq := someE hq
  subst hq
  refine eX_ret (vs := [.slice A1 (l1).length cap1]) [.tmp 2] (by rfl) ⟨by (show lkE _ _ _ = _); kernel_rfl, trivial⟩ ?_
  exact ⟨A1, cap1, fp1, rfl, F10, G6, hB⟩

set_option maxRecDepth 100000 in
/-- laws.b10At -/
theorem c_laws_b10At {w0 : World} {l0 : List (Int)} {A0 : Option Addr} {cap0 : Nat} {fp0 : List Nat} {p1 : Int} {p2 : Int} {r : (Int)} (hm : m_laws_b10At l0 p1 p2 = some r) (F0 : Sl 1 encU w0 fp0 A0 l0) :
  Calls Tryz.prog 20 #[.slice A0 (l0).length cap0, .int .i64 (p1), .int .i64 (p2)] w0 fun e w' => e = .returned (.int .i64 (r)) ∧ Chg [] w0 w' := by
 have L0 := F0.low
 have hB : Chg [] w0 w0 := Chg.refl _ _
 have hZ := Nat.le_refl w0.heap.size
 unfold m_laws_b10At at hm
 refine enterE (N := 25) Tryz.func20 (by rfl) Tryz.ntmps20 (by simp) [(0, .slice A0 (l0).length cap0), (1, .int .i64 (p1)), (2, .int .i64 (p2))] (by rfl) (by kernel_rfl) (fun a => ?_)
 refine cW_seq ?_
 refine cW_region ?_
 refine wS_pure 1 [(6, .int .i64 (0))] (by kernel_rfl) ?_
 refine wS_end (by rfl) ?_
 refine eX_then ?_
 refine cW_seq ?_
 refine cW_seq ?_
 refine cW_region ?_
 refine wS_pure 2 [(8, .bool (decide (p2 ≤ 1))), (7, .int .i64 (p2))] (by kernel_rfl) ?_
 refine wS_end (by rfl) ?_
 refine eX_then ?_
 refine cW_cond (t := decide (p2 ≤ 1)) (by kernel_rfl) (fun hb1 => ?_) (fun hb1 => ?_)
 ·have hm := condT hb1 hm
  refine cW_seq ?_
  refine cW_region ?_
  refine wS_pure 1 [(6, .int .i64 (0))] (by kernel_rfl) ?_
  refine wS_end (by rfl) ?_
  refine eX_then ?_
  refine cW_ret ?_
  refine eX_then_ret ?_
  have hq : (some 0 : Option ((Int))) = some _ := hm
  replace hq := someE hq
  subst hq
  refine eX_ret (vs := [.int .i64 (0)]) [.tmp 6] (by rfl) ⟨by (show lkE _ _ _ = _); kernel_rfl, trivial⟩ ?_
  exact ⟨rfl, hB⟩
 ·have hm := condF hb1 hm
  refine cW_skip ?_
  refine eX_then ?_
  refine cW_seq ?_
  refine cW_seq ?_
  refine cW_region ?_
  refine wS_pure 4 [(12, .bool (decide (p1 < (((l0).length : Int))))), (11, .int .i64 (((l0).length : Int))), (10, .slice A0 (l0).length cap0), (9, .int .i64 (p1))] (by kernel_rfl) ?_
  refine wS_end (by rfl) ?_
  refine eX_then ?_
  refine cW_cond (t := decide (p1 < (((l0).length : Int)))) (by kernel_rfl) (fun hb2 => ?_) (fun hb2 => ?_)
  ·have hm := condT hb2 hm
   refine cW_seq ?_
   refine cW_region ?_
   refine wS_pure 2 [(14, .int .i64 (p1)), (13, .slice A0 (l0).length cap0)] (by kernel_rfl) ?_
   obtain ⟨x1, hx1, hm⟩ := bindE hm
   refine wS_idx (d := 15) (T := 22) (A := A0) (n := (l0).length) (cap := cap0) (kd := .i64) (m := p1) (by kernel_rfl) sl22 (F0.is hx1) ?_
   refine wS_load1 (d := 16) (T := 5) (ad := (elA A0 1 (p1) 0)) (v := .int .u8 (x1)) (by kernel_rfl) vt5 (Sl.cell F0 hx1 0 (by rfl)) ?_
   refine wS_pure 2 [(18, .int .i64 (p2)), (17, .int .i64 (wr x1))] (by kernel_rfl) ?_
   obtain ⟨u1, hu1, hm⟩ := bindE hm
   refine wS_rem (d := 19) (x := wr x1) (y := p2) (by kernel_rfl) (nzE hu1) ?_
   refine wS_pure 1 [(6, .int .i64 (Int.tmod (wr x1) p2))] (by kernel_rfl) ?_
   refine wS_end (by rfl) ?_
   refine eX_then ?_
   refine cW_ret ?_
   refine eX_then_ret ?_
   have hq : (some (Int.tmod (wr x1) p2) : Option ((Int))) = some _ := hm
   replace hq := someE hq
   subst hq
   refine eX_ret (vs := [.int .i64 (Int.tmod (wr x1) p2)]) [.tmp 6] (by rfl) ⟨by (show lkE _ _ _ = _); kernel_rfl, trivial⟩ ?_
   exact ⟨rfl, hB⟩
  ·have hm := condF hb2 hm
   refine cW_skip ?_
   refine eX_then ?_
   refine cW_seq ?_
   refine cW_region ?_
   refine wS_pure 4 [(23, .int .i64 (p2)), (22, .int .i64 (wr ((wr (p1 * 37)) + 11))), (21, .int .i64 (wr (p1 * 37))), (20, .int .i64 (p1))] (by kernel_rfl) ?_
   obtain ⟨u2, hu2, hm⟩ := bindE hm
   refine wS_rem (d := 24) (x := wr ((wr (p1 * 37)) + 11)) (y := p2) (by kernel_rfl) (nzE hu2) ?_
   refine wS_pure 1 [(6, .int .i64 (Int.tmod (wr ((wr (p1 * 37)) + 11)) p2))] (by kernel_rfl) ?_
   refine wS_end (by rfl) ?_
   refine eX_then ?_
   refine cW_ret ?_
   have hq : (some (Int.tmod (wr ((wr (p1 * 37)) + 11)) p2) : Option ((Int))) = some _ := hm
   replace hq := someE hq
   subst hq
   refine eX_ret (vs := [.int .i64 (Int.tmod (wr ((wr (p1 * 37)) + 11)) p2)]) [.tmp 6] (by rfl) ⟨by (show lkE _ _ _ = _); kernel_rfl, trivial⟩ ?_
   exact ⟨rfl, hB⟩

set_option maxRecDepth 100000 in
/-- laws.b10Pin -/
theorem c_laws_b10Pin {w0 : World} {l0 : List (Int)} {A0 : Option Addr} {cap0 : Nat} {fp0 : List Nat} {p1 : Int} {r : (Int × Int)} (hm : m_laws_b10Pin l0 p1 = some r) (F0 : Sl 1 encU w0 fp0 A0 l0) :
  Calls Tryz.prog 6 #[.slice A0 (l0).length cap0, .int .i64 (p1)] w0 fun e w' => e = .returned (.agg #[.int .i64 (r.1), .int .i64 (r.2)]) ∧ Chg [] w0 w' := by
 have L0 := F0.low
 have hB : Chg [] w0 w0 := Chg.refl _ _
 have hZ := Nat.le_refl w0.heap.size
 unfold m_laws_b10Pin at hm
 refine enterE (N := 13) Tryz.func6 (by rfl) Tryz.ntmps6 (by simp) [(0, .slice A0 (l0).length cap0), (1, .int .i64 (p1))] (by rfl) (by kernel_rfl) (fun a => ?_)
 refine cW_seq ?_
 refine cW_region ?_
 refine wS_alloc (d := 4) (T := 27) (z := .agg #[.int .i64 (0), .int .i64 (0)]) (by kernel_rfl) (by kernel_rfl) ?_
 intro b1 w1 G1 F1 hc1
 replace F1 : Cl w1 b1 27 [.int .i64 (0), .int .i64 (0)] := F1
 replace F0 := F0.chg hc1 Dj.nil
 replace hB := hB.inS hc1 inNil
 replace G1 := Nat.le_trans hZ G1
 replace hZ := Nat.le_trans hZ hc1.size
 refine wS_end (by rfl) ?_
 refine eX_then ?_
 refine cW_seq ?_
 refine cW_region ?_
 refine wS_pure 2 [(6, .int .i64 (p1)), (5, .slice A0 (l0).length cap0)] (by kernel_rfl) ?_
 obtain ⟨y1, hy1, hm⟩ := bindE hm
 refine wS_calls (d := 7) (f := 20) (vs := [.slice A0 (l0).length cap0, .int .i64 (p1), .int .i64 (10)]) (by kernel_rfl) ent20 (c_laws_b10At hy1 F0) ?_
 rintro _ w2 ⟨rfl, hc2⟩
 replace F0 := F0.chg hc2 Dj.nil
 replace F1 := F1.chg hc2 notNil
 replace hB := hB.inS hc2 inNil
 replace hZ := Nat.le_trans hZ hc2.size
 refine ⟨.int .i64 (y1), rfl, ?_⟩
 refine wS_pure 3 [(10, .int .i64 (wr (p1 + 1))), (9, .int .i64 (p1)), (8, .slice A0 (l0).length cap0)] (by kernel_rfl) ?_
 obtain ⟨y2, hy2, hm⟩ := bindE hm
 refine wS_calls (d := 11) (f := 20) (vs := [.slice A0 (l0).length cap0, .int .i64 (wr (p1 + 1)), .int .i64 (10)]) (by kernel_rfl) ent20 (c_laws_b10At hy2 F0) ?_
 rintro _ w3 ⟨rfl, hc3⟩
 replace F0 := F0.chg hc3 Dj.nil
 replace F1 := F1.chg hc3 notNil
 replace hB := hB.inS hc3 inNil
 replace hZ := Nat.le_trans hZ hc3.size
 refine ⟨.int .i64 (y2), rfl, ?_⟩
 refine wS_pure 1 [(12, .agg #[.int .i64 (y1), .int .i64 (y2)])] (by kernel_rfl) ?_
 refine wS_store (T := 27) (g := b1) (o := 0) (ad := ⟨b1, 0, none⟩) (v := .agg #[.int .i64 (y1), .int .i64 (y2)]) (vs := [.int .i64 (y1), .int .i64 (y2)]) (by kernel_rfl) (by rfl) sz27 (by rfl) (by rfl) F1 (by simp only [List.length_cons, List.length_nil]; omega) ?_
 intro w4 F2 hc4
 replace F0 := F0.chg hc4 (Dj.of L0 (low1 G1))
 replace hB := hB.inS hc4 (inLow (low1 G1))
 replace hZ := Nat.le_trans hZ hc4.size
 replace F2 : Cl w4 b1 27 [.int .i64 (y1), .int .i64 (y2)] := F2
 clear F1
 refine wS_end (by rfl) ?_
 refine eX_then ?_
 refine cW_ret ?_
 have hq : (some ((y1, y2)) : Option ((Int × Int))) = some _ := hm
 replace hq := someE hq
 subst hq
 refine eX_ret (vs := [.agg #[.int .i64 (y1), .int .i64 (y2)]]) [.cell 4 27] (by rfl) ⟨⟨⟨b1, 0, none⟩, by kernel_rfl, run_loadVarA (vs := [.int .i64 (y1), .int .i64 (y2)]) vt27 (fun i u hu => by exact box_cells F2 0 hu (by rfl))⟩, trivial⟩ ?_
 exact ⟨rfl, hB⟩

set_option maxRecDepth 100000 in
/-- impl.in -/
theorem c_impl_in {w0 : World} {p0 : Int} {p1 : Int} {p2 : Int} {r : (Bool)} (hm : m_impl_in p0 p1 p2 = some r)  :
  Calls Tryz.prog 43 #[.int .i64 (p0), .int .i64 (p1), .int .i64 (p2)] w0 fun e w' => e = .returned (.bool (r)) ∧ Chg [] w0 w' := by
 have hB : Chg [] w0 w0 := Chg.refl _ _
 have hZ := Nat.le_refl w0.heap.size
 unfold m_impl_in at hm
 refine enterE (N := 15) Tryz.func43 (by rfl) Tryz.ntmps43 (by simp) [(0, .int .i64 (p0)), (1, .int .i64 (p1)), (2, .int .i64 (p2))] (by rfl) (by kernel_rfl) (fun a => ?_)
 refine cW_seq ?_
 refine cW_region ?_
 refine wS_pure 1 [(6, .bool (false))] (by kernel_rfl) ?_
 refine wS_end (by rfl) ?_
 refine eX_then ?_
 refine cW_seq ?_
 refine cW_region ?_
 refine wS_pure 4 [(10, .bool (decide (p0 ≥ p1))), (9, .bool (decide (p0 ≥ p1))), (8, .int .i64 (p1)), (7, .int .i64 (p0))] (by kernel_rfl) ?_
 refine wS_bool (decide (p0 ≥ p1)) (fun hb1 => ?_) (fun hb1 => ?_)
 ·have hm := condT hb1 hm
  rewrite [hb1]
  refine wS_pure 5 [(6, .bool (decide (p0 ≤ p2))), (14, .bool (decide (p0 ≤ p2))), (13, .bool (decide (p0 ≤ p2))), (12, .int .i64 (p2)), (11, .int .i64 (p0))] (by kernel_rfl) ?_
  refine wS_end (by rfl) ?_
  refine eX_then ?_
  refine cW_ret ?_
  have hq : (some (decide (p0 ≤ p2)) : Option ((Bool))) = some _ := hm
  replace hq := someE hq
  subst hq
  refine eX_ret (vs := [.bool (decide (p0 ≤ p2))]) [.tmp 6] (by rfl) ⟨by (show lkE _ _ _ = _); kernel_rfl, trivial⟩ ?_
  exact ⟨rfl, hB⟩
 ·have hm := condF hb1 hm
  rewrite [hb1]
  refine wS_pure 5 [(6, .bool (false)), (14, .bool (false)), (13, undef), (12, undef), (11, undef)] (by kernel_rfl) ?_
  refine wS_end (by rfl) ?_
  refine eX_then ?_
  refine cW_ret ?_
  have hq : (some false : Option ((Bool))) = some _ := hm
  replace hq := someE hq
  subst hq
  refine eX_ret (vs := [.bool (false)]) [.tmp 6] (by rfl) ⟨by (show lkE _ _ _ = _); kernel_rfl, trivial⟩ ?_
  exact ⟨rfl, hB⟩

set_option maxRecDepth 100000 in
/-- impl.IsPoint -/
theorem c_impl_IsPoint {w0 : World} {p0_0 : Int} {p0_1 : Int} {r : (Bool)} (hm : m_impl_IsPoint p0_0 p0_1 = some r)  :
  Calls Tryz.prog 29 #[.agg #[.int .i64 (p0_0), .int .i64 (p0_1)]] w0 fun e w' => e = .returned (.bool (r)) ∧ Chg [] w0 w' := by
 have hB : Chg [] w0 w0 := Chg.refl _ _
 have hZ := Nat.le_refl w0.heap.size
 unfold m_impl_IsPoint at hm
 refine enterE (N := 11) Tryz.func29 (by rfl) Tryz.ntmps29 (by simp) [(0, .agg #[.int .i64 (p0_0), .int .i64 (p0_1)])] (by rfl) (by kernel_rfl) (fun a => ?_)
 refine cW_seq ?_
 refine cW_region ?_
 refine wS_box (d := 1) (T := 27) (x := .agg #[.int .i64 (p0_0), .int .i64 (p0_1)]) (by kernel_rfl) ?_
 intro b1 w1 G1 F1 hc1
 replace F1 : Cl w1 b1 27 [.int .i64 (p0_0), .int .i64 (p0_1)] := F1
 replace hB := hB.inS hc1 inNil
 replace G1 := Nat.le_trans hZ G1
 replace hZ := Nat.le_trans hZ hc1.size
 refine wS_pure 1 [(2, .bool (false))] (by kernel_rfl) ?_
 refine wS_end (by rfl) ?_
 refine eX_then ?_
 refine cW_seq ?_
 refine cW_region ?_
 refine wS_pure 1 [(3, .pointer (some ⟨b1, 0, none⟩))] (by kernel_rfl) ?_
 refine wS_load1 (d := 4) (T := 2) (ad := ⟨b1, 0, none⟩) (v := .int .i64 (p0_0)) (by kernel_rfl) vt2 ((F1).cell 0) ?_
 obtain ⟨y1, hy1, hm⟩ := bindE hm
 refine wS_calls (d := 5) (f := 43) (vs := [.int .i64 (p0_0), .int .i64 (0), .int .i64 (99)]) (by kernel_rfl) ent43 (c_impl_in hy1) ?_
 rintro _ w2 ⟨rfl, hc2⟩
 replace F1 := F1.chg hc2 notNil
 replace hB := hB.inS hc2 inNil
 replace hZ := Nat.le_trans hZ hc2.size
 refine ⟨.bool (y1), rfl, ?_⟩
 refine wS_pure 1 [(6, .bool (y1))] (by kernel_rfl) ?_
 refine wS_bool y1 (fun hb1 => ?_) (fun hb1 => ?_)
 ·have hm := condT hb1 hm
  rewrite [hb1]
  refine wS_pure 1 [(7, .pointer (some ⟨b1, 1, none⟩))] (by kernel_rfl) ?_
  refine wS_load1 (d := 8) (T := 2) (ad := ⟨b1, 1, none⟩) (v := .int .i64 (p0_1)) (by kernel_rfl) vt2 ((F1).cell 1) ?_
  obtain ⟨y2, hy2, hm⟩ := bindE hm
  refine wS_calls (d := 9) (f := 43) (vs := [.int .i64 (p0_1), .int .i64 (0), .int .i64 (99)]) (by kernel_rfl) ent43 (c_impl_in hy2) ?_
  rintro _ w3 ⟨rfl, hc3⟩
  replace F1 := F1.chg hc3 notNil
  replace hB := hB.inS hc3 inNil
  replace hZ := Nat.le_trans hZ hc3.size
  refine ⟨.bool (y2), rfl, ?_⟩
  refine wS_pure 2 [(2, .bool (y2)), (10, .bool (y2))] (by kernel_rfl) ?_
  refine wS_end (by rfl) ?_
  refine eX_then ?_
  refine cW_ret ?_
  have hq : (some y2 : Option ((Bool))) = some _ := hm
  replace hq := someE hq
  subst hq
  refine eX_ret (vs := [.bool (y2)]) [.tmp 2] (by rfl) ⟨by (show lkE _ _ _ = _); kernel_rfl, trivial⟩ ?_
  exact ⟨rfl, hB⟩
 ·have hm := condF hb1 hm
  rewrite [hb1]
  refine wS_pure 5 [(2, .bool (false)), (10, .bool (false)), (9, undef), (8, undef), (7, undef)] (by kernel_rfl) ?_
  refine wS_end (by rfl) ?_
  refine eX_then ?_
  refine cW_ret ?_
  have hq : (some false : Option ((Bool))) = some _ := hm
  replace hq := someE hq
  subst hq
  refine eX_ret (vs := [.bool (false)]) [.tmp 2] (by rfl) ⟨by (show lkE _ _ _ = _); kernel_rfl, trivial⟩ ?_
  exact ⟨rfl, hB⟩

set_option maxRecDepth 100000 in
/-- impl.noPoint -/
theorem c_impl_noPoint {w0 : World} {p0_0 : Int} {p0_1 : Int} {r : (Bool)} (hm : m_impl_noPoint p0_0 p0_1 = some r)  :
  Calls Tryz.prog 27 #[.agg #[.int .i64 (p0_0), .int .i64 (p0_1)]] w0 fun e w' => e = .returned (.bool (r)) ∧ Chg [] w0 w' := by
 have hB : Chg [] w0 w0 := Chg.refl _ _
 have hZ := Nat.le_refl w0.heap.size
 unfold m_impl_noPoint at hm
 refine enterE (N := 6) Tryz.func27 (by rfl) Tryz.ntmps27 (by simp) [(0, .agg #[.int .i64 (p0_0), .int .i64 (p0_1)])] (by rfl) (by kernel_rfl) (fun a => ?_)
 refine cW_seq ?_
 refine cW_region ?_
 refine wS_box (d := 1) (T := 27) (x := .agg #[.int .i64 (p0_0), .int .i64 (p0_1)]) (by kernel_rfl) ?_
 intro b1 w1 G1 F1 hc1
 replace F1 : Cl w1 b1 27 [.int .i64 (p0_0), .int .i64 (p0_1)] := F1
 replace hB := hB.inS hc1 inNil
 replace G1 := Nat.le_trans hZ G1
 replace hZ := Nat.le_trans hZ hc1.size
 refine wS_pure 1 [(2, .bool (false))] (by kernel_rfl) ?_
 refine wS_end (by rfl) ?_
 refine eX_then ?_
 refine cW_seq ?_
 refine cW_region ?_
 refine wS_loadA (d := 3) (T := 27) (ad := ⟨b1, 0, none⟩) (vs := [.int .i64 (p0_0), .int .i64 (p0_1)]) (by kernel_rfl) vt27 (fun i u hu => box_cells F1 0 hu (by rfl)) ?_
 obtain ⟨y1, hy1, hm⟩ := bindE hm
 refine wS_calls (d := 4) (f := 29) (vs := [.agg #[.int .i64 (p0_0), .int .i64 (p0_1)]]) (by kernel_rfl) ent29 (c_impl_IsPoint hy1) ?_
 rintro _ w2 ⟨rfl, hc2⟩
 replace F1 := F1.chg hc2 notNil
 replace hB := hB.inS hc2 inNil
 replace hZ := Nat.le_trans hZ hc2.size
 refine ⟨.bool (y1), rfl, ?_⟩
 refine wS_pure 2 [(2, .bool (!y1)), (5, .bool (!y1))] (by kernel_rfl) ?_
 refine wS_end (by rfl) ?_
 refine eX_then ?_
 refine cW_ret ?_
 have hq : (some (!y1) : Option ((Bool))) = some _ := hm
 replace hq := someE hq
 subst hq
 refine eX_ret (vs := [.bool (!y1)]) [.tmp 2] (by rfl) ⟨by (show lkE _ _ _ = _); kernel_rfl, trivial⟩ ?_
 exact ⟨rfl, hB⟩

set_option maxRecDepth 100000 in
/-- impl.Point] -/
theorem c_slices_IndexFunc_impl_Point_impl_Point_impl_noPoint {w0 : World} {l0 : List (Int × Int)} {A0 : Option Addr} {cap0 : Nat} {fp0 : List Nat} {r : (Int)} (hm : m_slices_IndexFunc_impl_Point_impl_Point_impl_noPoint l0 = some r) (F0 : Sl 2 encII w0 fp0 A0 l0) :
  Calls Tryz.prog 44 #[.slice A0 (l0).length cap0, .func (.func 27) #[] #[]] w0 fun e w' => e = .returned (.int .i64 (r)) ∧ Chg [] w0 w' := by
 have L0 := F0.low
 have hB : Chg [] w0 w0 := Chg.refl _ _
 have hZ := Nat.le_refl w0.heap.size
 unfold m_slices_IndexFunc_impl_Point_impl_Point_impl_noPoint at hm
 refine enterE (N := 19) Tryz.func44 (by rfl) Tryz.ntmps44 (by simp) [(0, .slice A0 (l0).length cap0), (1, .func (.func 27) #[] #[])] (by rfl) (by kernel_rfl) (fun a => ?_)
 refine cW_seq ?_
 refine cW_region ?_
 refine wS_pure 1 [(4, .int .i64 (0))] (by kernel_rfl) ?_
 refine wS_end (by rfl) ?_
 refine eX_then ?_
 refine cW_seq ?_
 refine cW_seq ?_
 refine cW_region ?_
 refine wS_pure 3 [(8, .int .i64 (0)), (7, .int .i64 (((l0).length : Int))), (6, .slice A0 (l0).length cap0)] (by kernel_rfl) ?_
 refine wS_end (by rfl) ?_
 refine eX_then ?_
 obtain ⟨r1, hr1, hm⟩ := bindE hm
 have hm1 := hm
 refine cW_cut (fun a' w' => Sum.inl (()) = r1 ∧ Fr 19 [] a' ∧ Chg [] w0 w' ∧ w0.heap.size ≤ w'.heap.size) ?_ ?_
 ·refine cW_block ?_
  refine cW_loop _ (fun (s1 : Int) a' w' => ∃ x1 : Int, x1 = s1 ∧ Fr 19 [(0, .slice A0 (l0).length cap0), (1, .func (.func 27) #[] #[]), (7, .int .i64 (((l0).length : Int))), (8, .int .i64 (x1))] a' ∧ Sl 2 encII w' fp0 A0 l0 ∧ Chg [] w0 w' ∧ w0.heap.size ≤ w'.heap.size) hr1 (fun hst => ⟨0, rfl, Fr.of hst (by kernel_rfl), F0, hB, hZ⟩) ?_
  rintro _ c1 a' w1 ⟨x1, rfl, hF1, F1, hB, hZ⟩ hx1
  refine Fr.goOn hF1 (by kernel_rfl) ?_
  have hm := hx1
  unfold m_slices_IndexFunc_impl_Point_impl_Point_impl_noPoint_s1 at hm
  refine cW_seq ?_
  refine cW_region ?_
  refine wS_pure 1 [(9, .bool (decide (x1 < (((l0).length : Int)))))] (by kernel_rfl) ?_
  refine wS_end (by rfl) ?_
  refine eX_then ?_
  refine cW_seq ?_
  refine cW_cond (t := decide (x1 < (((l0).length : Int)))) (by kernel_rfl) (fun hb1 => ?_) (fun hb1 => ?_)
  ·have hm := condT hb1 hm
   refine cW_skip ?_
   refine eX_then ?_
   refine cW_seq ?_
   refine cW_block ?_
   refine cW_seq ?_
   refine cW_region ?_
   refine wS_pure 2 [(5, .int .i64 (x1)), (10, .int .i64 (x1))] (by kernel_rfl) ?_
   refine wS_end (by rfl) ?_
   refine eX_then ?_
   refine cW_seq ?_
   refine cW_region ?_
   refine wS_pure 3 [(13, .int .i64 (x1)), (12, .slice A0 (l0).length cap0), (11, .func (.func 27) #[] #[])] (by kernel_rfl) ?_
   obtain ⟨x2, hx2, hm⟩ := bindE hm
   refine wS_idx (d := 14) (T := 24) (A := A0) (n := (l0).length) (cap := cap0) (kd := .i64) (m := x1) (by kernel_rfl) sl24 (F1.is hx2) ?_
   refine wS_loadA (d := 15) (T := 27) (ad := (elA A0 2 (x1) 0)) (vs := [.int .i64 (x2.1), .int .i64 (x2.2)]) (by kernel_rfl) vt27 (fun i u hu => Sl.cells_at F1 hx2 0 hu (by rfl)) ?_
   obtain ⟨y1, hy1, hm⟩ := bindE hm
   refine wS_calls (d := 16) (f := 27) (vs := [.agg #[.int .i64 (x2.1), .int .i64 (x2.2)]]) (by kernel_rfl) ent27 (c_impl_noPoint hy1) ?_
   rintro _ w2 ⟨rfl, hc1⟩
   replace F1 := F1.chg hc1 Dj.nil
   replace hB := hB.inS hc1 inNil
   replace hZ := Nat.le_trans hZ hc1.size
   refine ⟨.bool (y1), rfl, ?_⟩
   refine wS_end (by rfl) ?_
   refine eX_then ?_
   refine cW_cond (t := y1) (by kernel_rfl) (fun hb2 => ?_) (fun hb2 => ?_)
   ·have hm := condT hb2 hm
    refine cW_seq ?_
    refine cW_region ?_
    refine wS_pure 2 [(4, .int .i64 (x1)), (17, .int .i64 (x1))] (by kernel_rfl) ?_
    refine wS_end (by rfl) ?_
    refine eX_then ?_
    refine cW_ret ?_
    refine eX_block_ret ?_
    refine eX_then_ret ?_
    have hq : (some (Ctl.out (Sum.inr x1)) : Option (Ctl (Int) (Sum (Unit) ((Int))))) = some _ := hm
    replace hq := someE hq
    subst hq
    refine eX_outR hx1 (fun hr => ?_)
    subst hr
    refine eX_block_ret ?_
    refine eX_then_ret ?_
    refine eX_then_ret ?_
    have hq : (some x1 : Option ((Int))) = some _ := hm1
    replace hq := someE hq
    subst hq
    refine eX_ret (vs := [.int .i64 (x1)]) [.tmp 4] (by rfl) ⟨by (show lkE _ _ _ = _); kernel_rfl, trivial⟩ ?_
    exact ⟨rfl, hB⟩
   ·have hm := condF hb2 hm
    refine cW_skip ?_
    refine eX_block ?_
    refine eX_then ?_
    refine cW_region ?_
    refine wS_pure 2 [(8, .int .i64 (wr (x1 + 1))), (18, .int .i64 (wr (x1 + 1)))] (by kernel_rfl) ?_
    refine wS_end (by rfl) ?_
    have hq : (some (Ctl.next (wr (x1 + 1))) : Option (Ctl (Int) (Sum (Unit) ((Int))))) = some _ := hm
    replace hq := someE hq
    subst hq
    exact eX_next hx1 (fun hst => ⟨wr (x1 + 1), rfl, Fr.of hst (by kernel_rfl), F1, hB, hZ⟩)
  ·have hm := condF hb1 hm
   refine cW_exit ?_
   refine eX_then_exit ?_
   have hq : (some (Ctl.out (Sum.inl (()))) : Option (Ctl (Int) (Sum (Unit) ((Int))))) = some _ := hm
   replace hq := someE hq
   subst hq
   refine eX_outX hx1 (fun hr2 => ?_)
   replace hr2 := hr2.symm
   subst hr2
   refine eX_block_hit ?_
   exact eX_J (fun hst => ⟨rfl, Fr.of hst (by kernel_rfl), hB, hZ⟩)
 ·rintro a' w3 ⟨hJ, hF2, hB, hZ⟩
  subst hJ
  refine Fr.goX hF2 (by kernel_rfl) ?_
  refine eX_then ?_
  refine cW_seq ?_
  refine cW_region ?_
  refine wS_pure 1 [(4, .int .i64 ((-1)))] (by kernel_rfl) ?_
  refine wS_end (by rfl) ?_
  refine eX_then ?_
  refine cW_ret ?_
  have hq : (some ((-1)) : Option ((Int))) = some _ := hm
  replace hq := someE hq
  subst hq
  refine eX_ret (vs := [.int .i64 ((-1))]) [.tmp 4] (by rfl) ⟨by (show lkE _ _ _ = _); kernel_rfl, trivial⟩ ?_
  exact ⟨rfl, hB⟩

set_option maxRecDepth 100000 in
/-- impl.Point] -/
theorem c_slices_ContainsFunc_impl_Point_impl_Point_impl_noPoint {w0 : World} {l0 : List (Int × Int)} {A0 : Option Addr} {cap0 : Nat} {fp0 : List Nat} {r : (Bool)} (hm : m_slices_ContainsFunc_impl_Point_impl_Point_impl_noPoint l0 = some r) (F0 : Sl 2 encII w0 fp0 A0 l0) :
  Calls Tryz.prog 26 #[.slice A0 (l0).length cap0, .func (.func 27) #[] #[]] w0 fun e w' => e = .returned (.bool (r)) ∧ Chg [] w0 w' := by
 have L0 := F0.low
 have hB : Chg [] w0 w0 := Chg.refl _ _
 have hZ := Nat.le_refl w0.heap.size
 unfold m_slices_ContainsFunc_impl_Point_impl_Point_impl_noPoint at hm
 refine enterE (N := 9) Tryz.func26 (by rfl) Tryz.ntmps26 (by simp) [(0, .slice A0 (l0).length cap0), (1, .func (.func 27) #[] #[])] (by rfl) (by kernel_rfl) (fun a => ?_)
 refine cW_seq ?_
 refine cW_region ?_
 refine wS_pure 1 [(4, .bool (false))] (by kernel_rfl) ?_
 refine wS_end (by rfl) ?_
 refine eX_then ?_
 refine cW_seq ?_
 refine cW_region ?_
 refine wS_pure 2 [(6, .func (.func 27) #[] #[]), (5, .slice A0 (l0).length cap0)] (by kernel_rfl) ?_
 obtain ⟨y1, hy1, hm⟩ := bindE hm
 refine wS_calls (d := 7) (f := 44) (vs := [.slice A0 (l0).length cap0, .func (.func 27) #[] #[]]) (by kernel_rfl) ent44 (c_slices_IndexFunc_impl_Point_impl_Point_impl_noPoint hy1 F0) ?_
 rintro _ w1 ⟨rfl, hc1⟩
 replace F0 := F0.chg hc1 Dj.nil
 replace hB := hB.inS hc1 inNil
 replace hZ := Nat.le_trans hZ hc1.size
 refine ⟨.int .i64 (y1), rfl, ?_⟩
 refine wS_pure 2 [(4, .bool (decide (y1 ≥ 0))), (8, .bool (decide (y1 ≥ 0)))] (by kernel_rfl) ?_
 refine wS_end (by rfl) ?_
 refine eX_then ?_
 refine cW_ret ?_
 have hq : (some (decide (y1 ≥ 0)) : Option ((Bool))) = some _ := hm
 replace hq := someE hq
 subst hq
 refine eX_ret (vs := [.bool (decide (y1 ≥ 0))]) [.tmp 4] (by rfl) ⟨by (show lkE _ _ _ = _); kernel_rfl, trivial⟩ ?_
 exact ⟨rfl, hB⟩

set_option maxRecDepth 100000 in
/-- impl.ArePoints -/
theorem c_impl_ArePoints {w0 : World} {l0 : List (Int × Int)} {A0 : Option Addr} {cap0 : Nat} {fp0 : List Nat} {r : (Bool)} (hm : m_impl_ArePoints l0 = some r) (F0 : Sl 2 encII w0 fp0 A0 l0) :
  Calls Tryz.prog 10 #[.slice A0 (l0).length cap0] w0 fun e w' => e = .returned (.bool (r)) ∧ Chg [] w0 w' := by
 have L0 := F0.low
 have hB : Chg [] w0 w0 := Chg.refl _ _
 have hZ := Nat.le_refl w0.heap.size
 unfold m_impl_ArePoints at hm
 refine enterE (N := 11) Tryz.func10 (by rfl) Tryz.ntmps10 (by simp) [(0, .slice A0 (l0).length cap0)] (by rfl) (by kernel_rfl) (fun a => ?_)
 refine cW_seq ?_
 refine cW_region ?_
 refine wS_pure 1 [(2, .bool (false))] (by kernel_rfl) ?_
 refine wS_end (by rfl) ?_
 refine eX_then ?_
 refine cW_seq ?_
 refine cW_region ?_
 refine wS_pure 4 [(6, .bool (decide ((((l0).length : Int)) ≤ 24))), (5, .bool (decide ((((l0).length : Int)) ≤ 24))), (4, .int .i64 (((l0).length : Int))), (3, .slice A0 (l0).length cap0)] (by kernel_rfl) ?_
 refine wS_bool (decide ((((l0).length : Int)) ≤ 24)) (fun hb1 => ?_) (fun hb1 => ?_)
 ·have hm := condT hb1 hm
  rewrite [hb1]
  refine wS_pure 1 [(7, .slice A0 (l0).length cap0)] (by kernel_rfl) ?_
  obtain ⟨y1, hy1, hm⟩ := bindE hm
  refine wS_calls (d := 8) (f := 26) (vs := [.slice A0 (l0).length cap0, .func (.func 27) #[] #[]]) (by kernel_rfl) ent26 (c_slices_ContainsFunc_impl_Point_impl_Point_impl_noPoint hy1 F0) ?_
  rintro _ w1 ⟨rfl, hc1⟩
  replace F0 := F0.chg hc1 Dj.nil
  replace hB := hB.inS hc1 inNil
  replace hZ := Nat.le_trans hZ hc1.size
  refine ⟨.bool (y1), rfl, ?_⟩
  refine wS_pure 3 [(2, .bool (!y1)), (10, .bool (!y1)), (9, .bool (!y1))] (by kernel_rfl) ?_
  refine wS_end (by rfl) ?_
  refine eX_then ?_
  refine cW_ret ?_
  have hq : (some (!y1) : Option ((Bool))) = some _ := hm
  replace hq := someE hq
  subst hq
  refine eX_ret (vs := [.bool (!y1)]) [.tmp 2] (by rfl) ⟨by (show lkE _ _ _ = _); kernel_rfl, trivial⟩ ?_
  exact ⟨rfl, hB⟩
 ·have hm := condF hb1 hm
  rewrite [hb1]
  refine wS_pure 5 [(2, .bool (false)), (10, .bool (false)), (9, undef), (8, undef), (7, undef)] (by kernel_rfl) ?_
  refine wS_end (by rfl) ?_
  refine eX_then ?_
  refine cW_ret ?_
  have hq : (some false : Option ((Bool))) = some _ := hm
  replace hq := someE hq
  subst hq
  refine eX_ret (vs := [.bool (false)]) [.tmp 2] (by rfl) ⟨by (show lkE _ _ _ = _); kernel_rfl, trivial⟩ ?_
  exact ⟨rfl, hB⟩

set_option maxRecDepth 100000 in
/-- impl.Point] -/
theorem c_slices_Clone_impl_Point_impl_Point {w0 : World} {l0 : List (Int × Int)} {A0 : Option Addr} {cap0 : Nat} {fp0 : List Nat} {r : (List (Int × Int))} (hm : m_slices_Clone_impl_Point_impl_Point l0 = some r) (F0 : Sl 2 encII w0 fp0 A0 l0) :
  Calls Tryz.prog 34 #[.slice A0 (l0).length cap0] w0 fun e w' => ∃ A100 cap100 fp100, e = .returned (.slice A100 (r).length cap100) ∧ Ow 2 encII 27 w' fp100 A100 cap100 r ∧ (∀ x ∈ fp100, w0.heap.size ≤ x) ∧ Chg [] w0 w' := by
 have L0 := F0.low
 have hB : Chg [] w0 w0 := Chg.refl _ _
 have hZ := Nat.le_refl w0.heap.size
 unfold m_slices_Clone_impl_Point_impl_Point at hm
 refine enterE (N := 8) Tryz.func34 (by rfl) Tryz.ntmps34 (by simp) [(0, .slice A0 (l0).length cap0)] (by rfl) (by kernel_rfl) (fun a => ?_)
 refine cW_seq ?_
 refine cW_region ?_
 refine wS_pure 1 [(2, .slice none 0 0)] (by kernel_rfl) ?_
 refine wS_end (by rfl) ?_
 refine eX_then ?_
 refine cW_seq ?_
 refine cW_seq ?_
 refine cW_region ?_
 refine wS_pure 1 [(3, .slice A0 (l0).length cap0)] (by kernel_rfl) ?_
 rcases A0 with _ | ad1
 ·have hl1 := F0.none_nil
  subst hl1
  replace hm : (some ([])) = some _ := Eq.trans (by kernel_rfl) hm
  refine wS_pure 1 [(4, .bool (true))] (by kernel_rfl) ?_
  refine wS_end (by rfl) ?_
  refine eX_then ?_
  refine cW_cond_t (by kernel_rfl) ?_
  refine cW_seq ?_
  refine cW_region ?_
  refine wS_pure 1 [(2, .slice none 0 0)] (by kernel_rfl) ?_
  refine wS_end (by rfl) ?_
  refine eX_then ?_
  refine cW_ret ?_
  refine eX_then_ret ?_
  have hq : (some ([]) : Option ((List (Int × Int)))) = some _ := hm
  replace hq := someE hq
  subst hq
  refine eX_ret (vs := [.slice none 0 0]) [.tmp 2] (by rfl) ⟨by (show lkE _ _ _ = _); kernel_rfl, trivial⟩ ?_
  exact ⟨none, 0, [], rfl, Ow.nil _, lowNil, hB⟩
 ·skip
  refine wS_pure 1 [(4, .bool (false))] (by kernel_rfl) ?_
  refine wS_end (by rfl) ?_
  refine eX_then ?_
  refine cW_cond_f (by kernel_rfl) ?_
  refine cW_skip ?_
  refine eX_then ?_
  refine cW_seq ?_
  refine cW_region ?_
  refine wS_bs0 (α := Int × Int) (enc := encII) (d := 5) (t := 24) (T := 27) (by kernel_rfl) el24 ?_
  intro b1 w1 G1 F1 hc1
  replace F0 := F0.chg hc1 Dj.nil
  replace hB := hB.inS hc1 inNil
  replace G1 := Nat.le_trans hZ G1
  replace G1 := low1 G1
  replace hZ := Nat.le_trans hZ hc1.size
  refine wS_pure 1 [(6, .slice (some ad1) (l0).length cap0)] (by kernel_rfl) ?_
  obtain ⟨_, hk1, hm⟩ := bindE hm
  replace hk1 := apE hk1
  refine wS_appendAny (enc := encII) (l := (([] : List (Int × Int)) : List (Int × Int))) (l2 := (l0 : List (Int × Int))) (d := 7) (t := 24) (T := 27) (A := (some ⟨b1, 0, none⟩)) (A2 := (some ad1)) (cap := 0) (cap2 := cap0) (by kernel_rfl) el24 encII_ok F1 F0 hk1 ?_
  intro w2 fp1 A1 cap1 F2 hc2 hp1
  have G2 := low_ap G1 hZ hp1
  replace F0 := F0.chg hc2 (Dj.of L0 G1)
  replace hB := hB.inS hc2 (inLow G1)
  replace hZ := Nat.le_trans hZ hc2.size
  refine wS_pure 1 [(2, .slice A1 ((([] : List (Int × Int))) ++ l0).length cap1)] (by kernel_rfl) ?_
  refine wS_end (by rfl) ?_
  refine eX_then ?_
  refine cW_ret ?_
  have hq : (some ((([] : List (Int × Int))) ++ l0) : Option ((List (Int × Int)))) = some _ := hm
  replace hq := someE hq
  subst hq
  refine eX_ret (vs := [.slice A1 ((([] : List (Int × Int))) ++ l0).length cap1]) [.tmp 2] (by rfl) ⟨by (show lkE _ _ _ = _); kernel_rfl, trivial⟩ ?_
  exact ⟨A1, cap1, fp1, rfl, F2, G2, hB⟩

set_option maxRecDepth 100000 in
/-- impl.Point] -/
theorem c_slices_Compact_impl_Point_impl_Point {w0 : World} {l0 : List (Int × Int)} {A0 : Option Addr} {cap0 : Nat} {fp0 : List Nat} {r : (List (Int × Int))} (hm : m_slices_Compact_impl_Point_impl_Point l0 = some r) (F0 : Ow 2 encII 27 w0 fp0 A0 cap0 l0) (K0 : (l0).length ≤ cap0) :
  Calls Tryz.prog 37 #[.slice A0 (l0).length cap0] w0 fun e w' => e = .returned (.slice A0 (r).length cap0) ∧ Ow 2 encII 27 w' fp0 A0 cap0 r ∧ Chg (fp0 ++ []) w0 w' := by
 have L0 := F0.low
 have hB : Chg (fp0 ++ []) w0 w0 := Chg.refl _ _
 have hZ := Nat.le_refl w0.heap.size
 unfold m_slices_Compact_impl_Point_impl_Point at hm
 refine enterE (N := 61) Tryz.func37 (by rfl) Tryz.ntmps37 (by simp) [(0, .slice A0 (l0).length cap0)] (by rfl) (by kernel_rfl) (fun a => ?_)
 refine cW_seq ?_
 refine cW_region ?_
 refine wS_pure 1 [(2, .slice none 0 0)] (by kernel_rfl) ?_
 refine wS_end (by rfl) ?_
 refine eX_then ?_
 refine cW_seq ?_
 refine cW_seq ?_
 refine cW_region ?_
 refine wS_pure 3 [(8, .bool (decide ((((l0).length : Int)) < 2))), (7, .int .i64 (((l0).length : Int))), (6, .slice A0 (l0).length cap0)] (by kernel_rfl) ?_
 refine wS_end (by rfl) ?_
 refine eX_then ?_
 refine cW_cond (t := decide ((((l0).length : Int)) < 2)) (by kernel_rfl) (fun hb1 => ?_) (fun hb1 => ?_)
 ·have hm := condT hb1 hm
  refine cW_seq ?_
  refine cW_region ?_
  refine wS_pure 2 [(2, .slice A0 (l0).length cap0), (9, .slice A0 (l0).length cap0)] (by kernel_rfl) ?_
  refine wS_end (by rfl) ?_
  refine eX_then ?_
  refine cW_ret ?_
  refine eX_then_ret ?_
  have hq : (some l0 : Option ((List (Int × Int)))) = some _ := hm
  replace hq := someE hq
  subst hq
  refine eX_ret (vs := [.slice A0 (l0).length cap0]) [.tmp 2] (by rfl) ⟨by (show lkE _ _ _ = _); kernel_rfl, trivial⟩ ?_
  exact ⟨rfl, F0, hB⟩
 ·have hm := condF hb1 hm
  refine cW_skip ?_
  refine eX_then ?_
  refine cW_seq ?_
  refine cW_seq ?_
  refine cW_region ?_
  refine wS_pure 1 [(3, .int .i64 (1))] (by kernel_rfl) ?_
  refine wS_end (by rfl) ?_
  refine eX_then ?_
  obtain ⟨r1, hr1, hm⟩ := bindE hm
  have hm1 := hm
  refine cW_cut (fun a' w' => Sum.inl (()) = r1 ∧ Fr 61 [(0, .slice A0 (l0).length cap0)] a' ∧ Ow 2 encII 27 w' fp0 A0 cap0 l0 ∧ Chg (fp0 ++ []) w0 w' ∧ w0.heap.size ≤ w'.heap.size) ?_ ?_
  ·refine cW_block ?_
   refine cW_loop _ (fun (s1 : Int) a' w' => ∃ x1 : Int, x1 = s1 ∧ Fr 61 [(0, .slice A0 (l0).length cap0), (3, .int .i64 (x1))] a' ∧ Ow 2 encII 27 w' fp0 A0 cap0 l0 ∧ Chg (fp0 ++ []) w0 w' ∧ w0.heap.size ≤ w'.heap.size) hr1 (fun hst => ⟨1, rfl, Fr.of hst (by kernel_rfl), F0, hB, hZ⟩) ?_
   rintro _ c1 a' w1 ⟨x1, rfl, hF1, F1, hB, hZ⟩ hx1
   refine Fr.goOn hF1 (by kernel_rfl) ?_
   have hm := hx1
   unfold m_slices_Compact_impl_Point_impl_Point_s3 at hm
   refine cW_seq ?_
   refine cW_seq ?_
   refine cW_region ?_
   refine wS_pure 4 [(13, .bool (decide (x1 < (((l0).length : Int))))), (12, .int .i64 (((l0).length : Int))), (11, .slice A0 (l0).length cap0), (10, .int .i64 (x1))] (by kernel_rfl) ?_
   refine wS_end (by rfl) ?_
   refine eX_then ?_
   refine cW_cond (t := decide (x1 < (((l0).length : Int)))) (by kernel_rfl) (fun hb2 => ?_) (fun hb2 => ?_)
   ·have hm := condT hb2 hm
    refine cW_skip ?_
    refine eX_then ?_
    refine cW_seq ?_
    refine cW_block ?_
    refine cW_seq ?_
    refine cW_drawnTail [] 9 (by kernel_rfl) (by kernel_rfl) (fun w2 hc1 => ?_)
    replace F1 := F1.chg hc1 Dj.nil
    replace hB := hB.inS hc1 inNil
    replace hZ := Nat.le_trans hZ hc1.size
    have hS := Chg.refl [] w2
    have Z1 := F1
    refine wH_take [0, 1] [1, 0] [(17, .int .i64 (x1)), (16, .slice A0 (l0).length cap0)] (by kernel_rfl) (qT (qT (qB (qT (qL (qB (qT (qT qZ)))))))) (by kernel_rfl) ?_
    obtain ⟨x2, hx2, hm⟩ := bindE hm
    refine wH_idx (i := 2) (d := 18) (T := 24) (A := A0) (n := (l0).length) (cap := cap0) (kd := .i64) (m := x1) (by kernel_rfl) (qT (qT (qB (qT (qL (qB (qT (qT qZ)))))))) (by kernel_rfl) (by kernel_rfl) sl24 ((F1.sl encII_ok).is hx2) ?_
    refine wH_loadA (i := 3) (d := 19) (T := 27) (ad := (elA A0 2 (x1) 0)) (vs := [.int .i64 (x2.1), .int .i64 (x2.2)]) (by kernel_rfl) (qT (qT (qB (qT (qL (qB (qT (qT qZ)))))))) (by kernel_rfl) (by kernel_rfl) vt27 (fun W hW i u hu => Sl.cells_at ((Z1.chg hW Dj.nil).sl encII_ok) hx2 0 hu (by rfl)) ?_
    refine wH_take [4, 5, 6] [6, 5, 4, 3, 2, 1, 0] [(22, .int .i64 (wr (x1 - 1))), (21, .int .i64 (x1)), (20, .slice A0 (l0).length cap0)] (by kernel_rfl) (qT (qT (qB (qT (qL (qB (qT (qT qZ)))))))) (by kernel_rfl) ?_
    obtain ⟨x3, hx3, hm⟩ := bindE hm
    refine wH_idx (i := 7) (d := 23) (T := 24) (A := A0) (n := (l0).length) (cap := cap0) (kd := .i64) (m := wr (x1 - 1)) (by kernel_rfl) (qT (qT (qB (qT (qL (qB (qT (qT qZ)))))))) (by kernel_rfl) (by kernel_rfl) sl24 ((F1.sl encII_ok).is hx3) ?_
    refine wH_loadA (i := 8) (d := 24) (T := 27) (ad := (elA A0 2 (wr (x1 - 1)) 0)) (vs := [.int .i64 (x3.1), .int .i64 (x3.2)]) (by kernel_rfl) (qT (qT (qB (qT (qL (qB (qT (qT qZ)))))))) (by kernel_rfl) (by kernel_rfl) vt27 (fun W hW i u hu => Sl.cells_at ((Z1.chg hW Dj.nil).sl encII_ok) hx3 0 hu (by rfl)) ?_
    refine wH_done (by kernel_rfl) ?_
    refine eX_tail ?_
    refine wS_eqS (d := 25) (T := 27) (x := x2.1) (y := x2.2) (x' := x3.1) (y' := x3.2) (by kernel_rfl) eq27 ?_
    refine wS_end (by rfl) ?_
    refine eX_then ?_
    refine cW_cond (t := x2.1 == x3.1 && x2.2 == x3.2) (by kernel_rfl) (fun hb3 => ?_) (fun hb3 => ?_)
    ·have hm := condT hb3 hm
     refine cW_seq ?_
     refine cW_region ?_
     refine wS_pure 2 [(27, .int .i64 (x1)), (26, .slice A0 (l0).length cap0)] (by kernel_rfl) ?_
     obtain ⟨y1, hy1, hm⟩ := bindE hm
     refine wS_cutA (enc := encII) (l := l0) (d := 28) (T := 24) (A := A0) (cap := cap0) (vlo := some (.int .i64 (x1))) (vhi := none) (lo := x1) (hi := ((l0).length : Int)) (n := 0) (by kernel_rfl) sl24 (Or.inl rfl) (Or.inr ⟨rfl, rfl⟩) (F1.sl encII_ok) F1.cap_le hy1 ?_
     intro A1 cap1 hA1 F2 hcap1
     obtain rfl := slci_slc hy1
     have hcz1 := F1.cap_le
     refine wS_pure 1 [(4, .slice A1 (slc l0 x1 (((l0).length : Int))).length cap1)] (by kernel_rfl) ?_
     refine wS_end (by rfl) ?_
     refine eX_then ?_
     refine cW_seq ?_
     refine cW_seq ?_
     refine cW_region ?_
     refine wS_pure 1 [(5, .int .i64 (1))] (by kernel_rfl) ?_
     refine wS_end (by rfl) ?_
     refine eX_then ?_
     obtain ⟨r2, hr2, hm⟩ := bindE hm
     have hm2 := hm
     refine cW_cut (fun a' w' => ∃ x4 : Int, ∃ l1 : List (Int × Int), (x4, l1) = r2 ∧ Fr 61 [(0, .slice A0 (l1).length cap0), (3, .int .i64 (x4))] a' ∧ Ow 2 encII 27 w' fp0 A0 cap0 l1 ∧ (l1).length = (l0).length ∧ Chg (fp0 ++ []) w0 w' ∧ w0.heap.size ≤ w'.heap.size) ?_ ?_
     ·refine cW_block ?_
      refine cW_loop _ (fun (s2 : Int × Int × (List (Int × Int))) a' w' => ∃ x5 : Int, ∃ x6 : Int, ∃ l2 : List (Int × Int), (x5, x6, l2) = s2 ∧ Fr 61 [(0, .slice A0 (l2).length cap0), (3, .int .i64 (x5)), (4, .slice A1 (slc l2 x1 (((l0).length : Int))).length cap1), (5, .int .i64 (x6))] a' ∧ Ow 2 encII 27 w' fp0 A0 cap0 l2 ∧ Sl 2 encII w' fp0 A1 (slc l2 x1 (((l0).length : Int))) ∧ (l2).length = (l0).length ∧ Chg (fp0 ++ []) w0 w' ∧ w0.heap.size ≤ w'.heap.size) hr2 (fun hst => ⟨x1, 1, l0, rfl, Fr.of hst (by kernel_rfl), F1, F2, (Eq.refl (l0).length), hB, hZ⟩) ?_
      rintro _ c2 a' w3 ⟨x5, x6, l2, rfl, hF2, F3, F4, hl1, hB, hZ⟩ hx4
      refine Fr.goOn hF2 (by kernel_rfl) ?_
      have hm := hx4
      unfold m_slices_Compact_impl_Point_impl_Point_s4 at hm
      refine cW_seq ?_
      refine cW_seq ?_
      refine cW_region ?_
      refine wS_pure 4 [(32, .bool (decide (x6 < (((slc l2 x1 (((l0).length : Int))).length : Int))))), (31, .int .i64 (((slc l2 x1 (((l0).length : Int))).length : Int))), (30, .slice A1 (slc l2 x1 (((l0).length : Int))).length cap1), (29, .int .i64 (x6))] (by kernel_rfl) ?_
      refine wS_end (by rfl) ?_
      refine eX_then ?_
      refine cW_cond (t := decide (x6 < (((slc l2 x1 (((l0).length : Int))).length : Int)))) (by kernel_rfl) (fun hb4 => ?_) (fun hb4 => ?_)
      ·have hm := condT hb4 hm
       refine cW_skip ?_
       refine eX_then ?_
       refine cW_seq ?_
       refine cW_block ?_
       obtain ⟨s3, hs1, hm⟩ := bindE hm
       refine cW_cut (fun a' w' => ∃ x7 : Int, ∃ l3 : List (Int × Int), (x7, l3) = s3 ∧ Fr 61 [(0, .slice A0 (l3).length cap0), (3, .int .i64 (x7)), (4, .slice A1 (slc l3 x1 (((l0).length : Int))).length cap1), (5, .int .i64 (x6))] a' ∧ Ow 2 encII 27 w' fp0 A0 cap0 l3 ∧ Sl 2 encII w' fp0 A1 (slc l3 x1 (((l0).length : Int))) ∧ (l3).length = (l0).length ∧ Chg (fp0 ++ []) w0 w' ∧ w0.heap.size ≤ w'.heap.size) ?_ ?_
       ·have hm := hs1
        refine cW_seq ?_
        refine cW_drawnTail [] 9 (by kernel_rfl) (by kernel_rfl) (fun w4 hc2 => ?_)
        replace F3 := F3.chg hc2 Dj.nil
        replace F4 := F4.chg hc2 Dj.nil
        replace hB := hB.inS hc2 inNil
        replace hZ := Nat.le_trans hZ hc2.size
        have hS := Chg.refl [] w4
        have Z2 := F3
        have Z3 := F4
        refine wH_take [0, 1] [1, 0] [(36, .int .i64 (x6)), (35, .slice A1 (slc l2 x1 (((l0).length : Int))).length cap1)] (by kernel_rfl) (qT (qT (qT (qB (qT (qL (qB (qT (qT (qB (qT (qL (qB (qT (qT qZ))))))))))))))) (by kernel_rfl) ?_
        obtain ⟨x8, hx5, hm⟩ := bindE hm
        refine wH_idx (i := 2) (d := 37) (T := 24) (A := A1) (n := (slc l2 x1 (((l0).length : Int))).length) (cap := cap1) (kd := .i64) (m := x6) (by kernel_rfl) (qT (qT (qT (qB (qT (qL (qB (qT (qT (qB (qT (qL (qB (qT (qT qZ))))))))))))))) (by kernel_rfl) (by kernel_rfl) sl24 (F4.is hx5) ?_
        refine wH_loadA (i := 3) (d := 38) (T := 27) (ad := (elA A1 2 (x6) 0)) (vs := [.int .i64 (x8.1), .int .i64 (x8.2)]) (by kernel_rfl) (qT (qT (qT (qB (qT (qL (qB (qT (qT (qB (qT (qL (qB (qT (qT qZ))))))))))))))) (by kernel_rfl) (by kernel_rfl) vt27 (fun W hW i u hu => Sl.cells_at (Z3.chg hW Dj.nil) hx5 0 hu (by rfl)) ?_
        refine wH_take [4, 5, 6] [6, 5, 4, 3, 2, 1, 0] [(41, .int .i64 (wr (x6 - 1))), (40, .int .i64 (x6)), (39, .slice A1 (slc l2 x1 (((l0).length : Int))).length cap1)] (by kernel_rfl) (qT (qT (qT (qB (qT (qL (qB (qT (qT (qB (qT (qL (qB (qT (qT qZ))))))))))))))) (by kernel_rfl) ?_
        obtain ⟨x9, hx6, hm⟩ := bindE hm
        refine wH_idx (i := 7) (d := 42) (T := 24) (A := A1) (n := (slc l2 x1 (((l0).length : Int))).length) (cap := cap1) (kd := .i64) (m := wr (x6 - 1)) (by kernel_rfl) (qT (qT (qT (qB (qT (qL (qB (qT (qT (qB (qT (qL (qB (qT (qT qZ))))))))))))))) (by kernel_rfl) (by kernel_rfl) sl24 (F4.is hx6) ?_
        refine wH_loadA (i := 8) (d := 43) (T := 27) (ad := (elA A1 2 (wr (x6 - 1)) 0)) (vs := [.int .i64 (x9.1), .int .i64 (x9.2)]) (by kernel_rfl) (qT (qT (qT (qB (qT (qL (qB (qT (qT (qB (qT (qL (qB (qT (qT qZ))))))))))))))) (by kernel_rfl) (by kernel_rfl) vt27 (fun W hW i u hu => Sl.cells_at (Z3.chg hW Dj.nil) hx6 0 hu (by rfl)) ?_
        refine wH_done (by kernel_rfl) ?_
        refine eX_tail ?_
        refine wS_neS (d := 44) (T := 27) (x := x8.1) (y := x8.2) (x' := x9.1) (y' := x9.2) (by kernel_rfl) eq27 ?_
        refine wS_end (by rfl) ?_
        refine eX_then ?_
        refine cW_cond (t := !(x8.1 == x9.1 && x8.2 == x9.2)) (by kernel_rfl) (fun hb5 => ?_) (fun hb5 => ?_)
        ·have hm := condT hb5 hm
         refine cW_seq ?_
         refine cW_region ?_
         refine wS_pure 4 [(48, .int .i64 (x6)), (47, .slice A1 (slc l2 x1 (((l0).length : Int))).length cap1), (46, .int .i64 (x5)), (45, .slice A0 (l2).length cap0)] (by kernel_rfl) ?_
         obtain ⟨x10, hx7, hm⟩ := bindE hm
         refine wS_idx (d := 49) (T := 24) (A := A1) (n := (slc l2 x1 (((l0).length : Int))).length) (cap := cap1) (kd := .i64) (m := x6) (by kernel_rfl) sl24 (F4.is hx7) ?_
         refine wS_loadA (d := 50) (T := 27) (ad := (elA A1 2 (x6) 0)) (vs := [.int .i64 (x10.1), .int .i64 (x10.2)]) (by kernel_rfl) vt27 (fun i u hu => Sl.cells_at F4 hx7 0 hu (by rfl)) ?_
         obtain ⟨x11, hx8, hm⟩ := bindE hm
         refine wS_idx (d := 51) (T := 24) (A := A0) (n := (l2).length) (cap := cap0) (kd := .i64) (m := x5) (by kernel_rfl) sl24 ((F3.sl encII_ok).is hx8) ?_
         refine wS_storeEl (x := x11) ((x10.1, x10.2)) (T := 27) (U := 27) (cap := cap0) (j := 0) (A := A0) (v := .agg #[.int .i64 (x10.1), .int .i64 (x10.2)]) (vs := [.int .i64 (x10.1), .int .i64 (x10.2)]) (m := x5) (by kernel_rfl) (by rfl) sz27 (by rfl) encII_ok F3 hx8 (by simp only [List.length_cons, List.length_nil]; omega) (by rfl) ?_
         intro w5 F5 hc3
         replace hB := hB.inS hc3 (inMem (fun x hx => (List.mem_append_left _ hx)))
         replace hZ := Nat.le_trans hZ hc3.size
         clear F3
         have hl2 := (show (l2.set (Int.toNat x5) ((x10.1, x10.2))).length = (l2).length from List.length_set ..).trans hl1
         rewrite [show (l2).length = (l2.set (Int.toNat x5) ((x10.1, x10.2))).length from (List.length_set ..).symm]
         have F6 := Sl.recut (F5.sl encII_ok) hA1 hy1 hcz1 (hl2.trans (Eq.refl (l0).length).symm)
         first | rewrite [show (slc l2 x1 (((l0).length : Int))).length = (slc (l2.set (Int.toNat x5) ((x10.1, x10.2))) x1 (((l0).length : Int))).length from (slc_length (show (l2.set (Int.toNat x5) ((x10.1, x10.2))).length = (l2).length from List.length_set ..)).symm] | skip
         refine wS_end (by rfl) ?_
         refine eX_then ?_
         refine cW_prune [(0, .slice A0 (l2.set (Int.toNat x5) ((x10.1, x10.2))).length cap0), (3, .int .i64 (x5)), (4, .slice A1 (slc (l2.set (Int.toNat x5) ((x10.1, x10.2))) x1 (((l0).length : Int))).length cap1), (5, .int .i64 (x6))] (by kernel_rfl) (by kernel_rfl) (fun a1 => ?_)
         refine cW_region ?_
         refine wS_pure 3 [(3, .int .i64 (wr (x5 + 1))), (53, .int .i64 (wr (x5 + 1))), (52, .int .i64 (x5))] (by kernel_rfl) ?_
         refine wS_end (by rfl) ?_
         have hq : (some ((wr (x5 + 1), l2.set (Int.toNat x5) ((x10.1, x10.2)))) : Option (Int × (List (Int × Int)))) = some _ := hm
         replace hq := someE hq
         subst hq
         exact eX_J (fun hst => ⟨wr (x5 + 1), l2.set (Int.toNat x5) ((x10.1, x10.2)), rfl, Fr.of hst (by kernel_rfl), F5, F6, hl2, hB, hZ⟩)
        ·have hm := condF hb5 hm
         refine cW_skip ?_
         have hq : (some ((x5, l2)) : Option (Int × (List (Int × Int)))) = some _ := hm
         replace hq := someE hq
         subst hq
         exact eX_J (fun hst => ⟨x5, l2, rfl, Fr.of hst (by kernel_rfl), F3, F4, hl1, hB, hZ⟩)
       ·rintro a' w6 ⟨x7, l3, hJ, hF3, F7, F8, hl3, hB, hZ⟩
        subst hJ
        refine Fr.goX hF3 (by kernel_rfl) ?_
        refine eX_block ?_
        refine eX_then ?_
        refine cW_region ?_
        refine wS_pure 3 [(5, .int .i64 (wr (x6 + 1))), (34, .int .i64 (wr (x6 + 1))), (33, .int .i64 (x6))] (by kernel_rfl) ?_
        refine wS_end (by rfl) ?_
        have hq : (some (Ctl.next ((x7, wr (x6 + 1), l3))) : Option (Ctl (Int × Int × (List (Int × Int))) (Int × (List (Int × Int))))) = some _ := hm
        replace hq := someE hq
        subst hq
        exact eX_next hx4 (fun hst => ⟨x7, wr (x6 + 1), l3, rfl, Fr.of hst (by kernel_rfl), F7, F8, hl3, hB, hZ⟩)
      ·have hm := condF hb4 hm
       refine cW_exit ?_
       refine eX_then_exit ?_
       have hq : (some (Ctl.out ((x5, l2))) : Option (Ctl (Int × Int × (List (Int × Int))) (Int × (List (Int × Int))))) = some _ := hm
       replace hq := someE hq
       subst hq
       refine eX_outX hx4 (fun hr3 => ?_)
       replace hr3 := hr3.symm
       subst hr3
       refine eX_block_hit ?_
       exact eX_J (fun hst => ⟨x5, l2, rfl, Fr.of hst (by kernel_rfl), F3, hl1, hB, hZ⟩)
     ·rintro a' w7 ⟨x4, l1, hJ, hF4, F9, hl4, hB, hZ⟩
      subst hJ
      refine Fr.goX hF4 (by kernel_rfl) ?_
      refine eX_then ?_
      refine cW_seq ?_
      refine cW_region ?_
      refine wS_pure 2 [(55, .int .i64 (x4)), (54, .slice A0 (l1).length cap0)] (by kernel_rfl) ?_
      obtain ⟨y2, hy2, hm⟩ := bindE hm
      refine wS_cutA (enc := encII) (l := l1) (d := 56) (T := 24) (A := A0) (cap := cap0) (vlo := some (.int .i64 (x4))) (vhi := none) (lo := x4) (hi := ((l1).length : Int)) (n := 0) (by kernel_rfl) sl24 (Or.inl rfl) (Or.inr ⟨rfl, rfl⟩) (F9.sl encII_ok) F9.cap_le hy2 ?_
      intro A2 cap2 hA2 F10 hcap2
      obtain rfl := slci_slc hy2
      have hcz2 := F9.cap_le
      refine wS_clear (A' := A2) (c' := cap2) (x0 := ((0, 0) : Int × Int)) (l := l1) (l0 := l1) (T := 24) (A := A0) (cap := cap0) (lo := x4) (by kernel_rfl) el24 encII_ok (by rfl) (by kernel_rfl) F9 hA2 hy2 rfl ?_
      intro w8 F11 hlc1 hc4
      replace hB := hB.inS hc4 (inMem (fun x hx => (List.mem_append_left _ hx)))
      replace hZ := Nat.le_trans hZ hc4.size
      clear F9
      have hl5 := hlc1.trans hl4
      rewrite [show (l1).length = (clr ((0, 0) : Int × Int) l1 x4).length from hlc1.symm]
      refine wS_end (by rfl) ?_
      refine eX_then ?_
      refine cW_seq ?_
      refine cW_region ?_
      refine wS_pure 2 [(58, .int .i64 (x4)), (57, .slice A0 (clr ((0, 0) : Int × Int) l1 x4).length cap0)] (by kernel_rfl) ?_
      obtain ⟨y3, hy3, hm⟩ := bindE hm
      refine wS_prefix (k := 2) (enc := encII) (U := 27) (l := clr ((0, 0) : Int × Int) l1 x4) (d := 59) (T := 24) (A := A0) (cap := cap0) (hi := x4) (by kernel_rfl) sl24 encII_ok F11 F11.cap_le hy3 ?_
      intro hpe F12
      subst hpe
      refine wS_pure 1 [(2, .slice A0 ((clr ((0, 0) : Int × Int) l1 x4).take (Int.toNat x4)).length cap0)] (by kernel_rfl) ?_
      refine wS_end (by rfl) ?_
      refine eX_then ?_
      refine cW_ret ?_
      refine eX_block_ret ?_
      refine eX_then_ret ?_
      have hq : (some (Ctl.out (Sum.inr ((clr ((0, 0) : Int × Int) l1 x4).take (Int.toNat x4)))) : Option (Ctl (Int) (Sum (Unit) ((List (Int × Int)))))) = some _ := hm
      replace hq := someE hq
      subst hq
      refine eX_outR hx1 (fun hr => ?_)
      subst hr
      refine eX_block_ret ?_
      refine eX_then_ret ?_
      refine eX_then_ret ?_
      have hq : (some ((clr ((0, 0) : Int × Int) l1 x4).take (Int.toNat x4)) : Option ((List (Int × Int)))) = some _ := hm1
      replace hq := someE hq
      subst hq
      refine eX_ret (vs := [.slice A0 ((clr ((0, 0) : Int × Int) l1 x4).take (Int.toNat x4)).length cap0]) [.tmp 2] (by rfl) ⟨by (show lkE _ _ _ = _); kernel_rfl, trivial⟩ ?_
      exact ⟨rfl, F12, hB⟩
    ·have hm := condF hb3 hm
     refine cW_skip ?_
     refine eX_block ?_
     refine eX_then ?_
     refine cW_region ?_
     refine wS_pure 3 [(3, .int .i64 (wr (x1 + 1))), (15, .int .i64 (wr (x1 + 1))), (14, .int .i64 (x1))] (by kernel_rfl) ?_
     refine wS_end (by rfl) ?_
     have hq : (some (Ctl.next (wr (x1 + 1))) : Option (Ctl (Int) (Sum (Unit) ((List (Int × Int)))))) = some _ := hm
     replace hq := someE hq
     subst hq
     exact eX_next hx1 (fun hst => ⟨wr (x1 + 1), rfl, Fr.of hst (by kernel_rfl), F1, hB, hZ⟩)
   ·have hm := condF hb2 hm
    refine cW_exit ?_
    refine eX_then_exit ?_
    have hq : (some (Ctl.out (Sum.inl (()))) : Option (Ctl (Int) (Sum (Unit) ((List (Int × Int)))))) = some _ := hm
    replace hq := someE hq
    subst hq
    refine eX_outX hx1 (fun hr4 => ?_)
    replace hr4 := hr4.symm
    subst hr4
    refine eX_block_hit ?_
    exact eX_J (fun hst => ⟨rfl, Fr.of hst (by kernel_rfl), F1, hB, hZ⟩)
  ·rintro a' w9 ⟨hJ, hF5, F13, hB, hZ⟩
   subst hJ
   refine Fr.goX hF5 (by kernel_rfl) ?_
   refine eX_then ?_
   refine cW_seq ?_
   refine cW_region ?_
   refine wS_pure 2 [(2, .slice A0 (l0).length cap0), (60, .slice A0 (l0).length cap0)] (by kernel_rfl) ?_
   refine wS_end (by rfl) ?_
   refine eX_then ?_
   refine cW_ret ?_
   have hq : (some l0 : Option ((List (Int × Int)))) = some _ := hm
   replace hq := someE hq
   subst hq
   refine eX_ret (vs := [.slice A0 (l0).length cap0]) [.tmp 2] (by rfl) ⟨by (show lkE _ _ _ = _); kernel_rfl, trivial⟩ ?_
   exact ⟨rfl, F13, hB⟩

set_option maxRecDepth 100000 in
/-- impl.sorted -/
theorem c_impl_sorted {w0 : World} {l0 : List (Int × Int)} {A0 : Option Addr} {cap0 : Nat} {fp0 : List Nat} {r : (List (Int × Int))} (hm : m_impl_sorted l0 = some r) (F0 : Sl 2 encII w0 fp0 A0 l0) :
  Calls Tryz.prog 21 #[.slice A0 (l0).length cap0] w0 fun e w' => ∃ A100 cap100 fp100, e = .returned (.slice A100 (r).length cap100) ∧ Ow 2 encII 27 w' fp100 A100 cap100 r ∧ (∀ x ∈ fp100, w0.heap.size ≤ x) ∧ Chg [] w0 w' := by
 have L0 := F0.low
 have hB : Chg [] w0 w0 := Chg.refl _ _
 have hZ := Nat.le_refl w0.heap.size
 unfold m_impl_sorted at hm
 refine enterE (N := 10) Tryz.func21 (by rfl) Tryz.ntmps21 (by simp) [(0, .slice A0 (l0).length cap0)] (by rfl) (by kernel_rfl) (fun a => ?_)
 refine cW_seq ?_
 refine cW_region ?_
 refine wS_pure 1 [(2, .slice none 0 0)] (by kernel_rfl) ?_
 refine wS_end (by rfl) ?_
 refine eX_then ?_
 refine cW_seq ?_
 refine cW_region ?_
 refine wS_pure 1 [(4, .slice A0 (l0).length cap0)] (by kernel_rfl) ?_
 obtain ⟨y1, hy1, hm⟩ := bindE hm
 refine wS_calls (d := 5) (f := 34) (vs := [.slice A0 (l0).length cap0]) (by kernel_rfl) ent34 (c_slices_Clone_impl_Point_impl_Point hy1 F0) ?_
 rintro _ w1 ⟨A1, cap1, fp1, rfl, F1, G1, hc1⟩
 replace F0 := F0.chg hc1 Dj.nil
 replace hB := hB.inS hc1 inNil
 replace G1 := low_le hZ G1
 replace hZ := Nat.le_trans hZ hc1.size
 refine ⟨.slice A1 (y1).length cap1, rfl, ?_⟩
 refine wS_pure 1 [(3, .slice A1 (y1).length cap1)] (by kernel_rfl) ?_
 refine wS_end (by rfl) ?_
 refine eX_then ?_
 refine cW_seq ?_
 refine cW_region ?_
 refine wS_pure 1 [(6, .slice A1 (y1).length cap1)] (by kernel_rfl) ?_
 obtain ⟨y2, hy2, hm⟩ := bindE hm
 refine wS_calls (d := 7) (f := 35) (vs := [.slice A1 (y1).length cap1, .func (.func 36) #[] #[]]) (by kernel_rfl) ent35 (c_slices_SortFunc_impl_Point_impl_Point_impl_pointOrder hy2 F1) ?_
 rintro _ w2 ⟨rfl, F2, hl1, hc2⟩
 replace F0 := F0.chg hc2 (Dj.app (Dj.of L0 G1) Dj.nil)
 replace hB := hB.inS hc2 (inApp (inLow G1) inNil)
 replace hZ := Nat.le_trans hZ hc2.size
 clear F1
 refine ⟨.tuple #[], rfl, ?_⟩
 rewrite [(show (y1).length = (y2).length from hl1.symm)]
 refine wS_end (by rfl) ?_
 refine eX_then ?_
 refine cW_seq ?_
 refine cW_region ?_
 refine wS_pure 1 [(8, .slice A1 (y2).length cap1)] (by kernel_rfl) ?_
 obtain ⟨y3, hy3, hm⟩ := bindE hm
 refine wS_calls (d := 9) (f := 37) (vs := [.slice A1 (y2).length cap1]) (by kernel_rfl) ent37 (c_slices_Compact_impl_Point_impl_Point hy3 F2 F2.cap_le) ?_
 rintro _ w3 ⟨rfl, F3, hc3⟩
 replace F0 := F0.chg hc3 (Dj.app (Dj.of L0 G1) Dj.nil)
 replace hB := hB.inS hc3 (inApp (inLow G1) inNil)
 clear F2
 replace hZ := Nat.le_trans hZ hc3.size
 refine ⟨.slice A1 (y3).length cap1, rfl, ?_⟩
 refine wS_pure 1 [(2, .slice A1 (y3).length cap1)] (by kernel_rfl) ?_
 refine wS_end (by rfl) ?_
 refine eX_then ?_
 refine cW_ret ?_
 have hq : (some y3 : Option ((List (Int × Int)))) = some _ := hm
 replace hq := someE hq
 subst hq
 refine eX_ret (vs := [.slice A1 (y3).length cap1]) [.tmp 2] (by rfl) ⟨by (show lkE _ _ _ = _); kernel_rfl, trivial⟩ ?_
 exact ⟨A1, cap1, fp1, rfl, F3, G1, hB⟩

set_option maxRecDepth 100000 in
/-- impl.SortPoints -/
theorem c_impl_SortPoints {w0 : World} {l0 : List (Int × Int)} {A0 : Option Addr} {cap0 : Nat} {fp0 : List Nat} {r : (List (Int × Int)) × (Bool)} (hm : m_impl_SortPoints l0 = some r) (F0 : Sl 2 encII w0 fp0 A0 l0) :
  Calls Tryz.prog 7 #[.slice A0 (l0).length cap0] w0 fun e w' => ∃ A100 cap100 fp100, e = .returned (.tuple #[.slice A100 (r.1).length cap100, .bool (r.2)]) ∧ Ow 2 encII 27 w' fp100 A100 cap100 r.1 ∧ (∀ x ∈ fp100, w0.heap.size ≤ x) ∧ Chg [] w0 w' := by
 have L0 := F0.low
 have hB : Chg [] w0 w0 := Chg.refl _ _
 have hZ := Nat.le_refl w0.heap.size
 unfold m_impl_SortPoints at hm
 refine enterE (N := 9) Tryz.func7 (by rfl) Tryz.ntmps7 (by simp) [(0, .slice A0 (l0).length cap0)] (by rfl) (by kernel_rfl) (fun a => ?_)
 refine cW_seq ?_
 refine cW_region ?_
 refine wS_pure 2 [(3, .bool (false)), (2, .slice none 0 0)] (by kernel_rfl) ?_
 refine wS_end (by rfl) ?_
 refine eX_then ?_
 refine cW_seq ?_
 refine cW_seq ?_
 refine cW_region ?_
 refine wS_pure 1 [(4, .slice A0 (l0).length cap0)] (by kernel_rfl) ?_
 obtain ⟨y1, hy1, hm⟩ := bindE hm
 refine wS_calls (d := 5) (f := 10) (vs := [.slice A0 (l0).length cap0]) (by kernel_rfl) ent10 (c_impl_ArePoints hy1 F0) ?_
 rintro _ w1 ⟨rfl, hc1⟩
 replace F0 := F0.chg hc1 Dj.nil
 replace hB := hB.inS hc1 inNil
 replace hZ := Nat.le_trans hZ hc1.size
 refine ⟨.bool (y1), rfl, ?_⟩
 refine wS_pure 1 [(6, .bool (!y1))] (by kernel_rfl) ?_
 refine wS_end (by rfl) ?_
 refine eX_then ?_
 refine cW_cond (t := !y1) (by kernel_rfl) (fun hb1 => ?_) (fun hb1 => ?_)
 ·have hm := condT hb1 hm
  refine cW_seq ?_
  refine cW_region ?_
  refine wS_pure 2 [(3, .bool (false)), (2, .slice none 0 0)] (by kernel_rfl) ?_
  refine wS_end (by rfl) ?_
  refine eX_then ?_
  refine cW_ret ?_
  refine eX_then_ret ?_
  have hq : (some (([], false)) : Option ((List (Int × Int)) × (Bool))) = some _ := hm
  replace hq := someE hq
  subst hq
  refine eX_ret (vs := [.slice none 0 0, .bool (false)]) [.tmp 2, .tmp 3] (by rfl) ⟨by (show lkE _ _ _ = _); kernel_rfl, ⟨by (show lkE _ _ _ = _); kernel_rfl, trivial⟩⟩ ?_
  exact ⟨none, 0, [], rfl, Ow.nil _, lowNil, hB⟩
 ·have hm := condF hb1 hm
  refine cW_skip ?_
  refine eX_then ?_
  refine cW_seq ?_
  refine cW_region ?_
  refine wS_pure 1 [(7, .slice A0 (l0).length cap0)] (by kernel_rfl) ?_
  obtain ⟨y2, hy2, hm⟩ := bindE hm
  refine wS_calls (d := 8) (f := 21) (vs := [.slice A0 (l0).length cap0]) (by kernel_rfl) ent21 (c_impl_sorted hy2 F0) ?_
  rintro _ w2 ⟨A1, cap1, fp1, rfl, F1, G1, hc2⟩
  replace F0 := F0.chg hc2 Dj.nil
  replace hB := hB.inS hc2 inNil
  replace G1 := low_le hZ G1
  replace hZ := Nat.le_trans hZ hc2.size
  refine ⟨.slice A1 (y2).length cap1, rfl, ?_⟩
  refine wS_pure 2 [(3, .bool (true)), (2, .slice A1 (y2).length cap1)] (by kernel_rfl) ?_
  refine wS_end (by rfl) ?_
  refine eX_then ?_
  refine cW_ret ?_
  have hq : (some ((y2, true)) : Option ((List (Int × Int)) × (Bool))) = some _ := hm
  replace hq := someE hq
  subst hq
  refine eX_ret (vs := [.slice A1 (y2).length cap1, .bool (true)]) [.tmp 2, .tmp 3] (by rfl) ⟨by (show lkE _ _ _ = _); kernel_rfl, ⟨by (show lkE _ _ _ = _); kernel_rfl, trivial⟩⟩ ?_
  exact ⟨A1, cap1, fp1, rfl, F1, G1, hB⟩

set_option maxRecDepth 100000 in
/-- impl.Decimal -/
theorem c_impl_Decimal {w0 : World} {p0 : Int} {r : (ByteArray)} (hm : m_impl_Decimal p0 = some r)  :
  Calls Tryz.prog 38 #[.int .i64 (p0)] w0 fun e w' => e = .returned (.string (r)) ∧ Chg [] w0 w' := by
 have hB : Chg [] w0 w0 := Chg.refl _ _
 have hZ := Nat.le_refl w0.heap.size
 unfold m_impl_Decimal at hm
 refine enterE (N := 5) Tryz.func38 (by rfl) Tryz.ntmps38 (by simp) [(0, .int .i64 (p0))] (by rfl) (by kernel_rfl) (fun a => ?_)
 refine cW_seq ?_
 refine cW_region ?_
 refine wS_pure 1 [(2, .string (ByteArray.mk #[]))] (by kernel_rfl) ?_
 refine wS_end (by rfl) ?_
 refine eX_then ?_
 refine cW_seq ?_
 refine cW_region ?_
 refine wS_pure 1 [(3, .int .i64 (p0))] (by kernel_rfl) ?_
 obtain ⟨y1, hy1, hm⟩ := bindE hm
 refine wS_calls (d := 4) (f := 50) (vs := [.int .i64 (p0), .int .i64 (10)]) (by kernel_rfl) ent50 (c_strconv_FormatInt hy1) ?_
 rintro _ w1 ⟨rfl, hc1⟩
 replace hB := hB.inS hc1 inNil
 replace hZ := Nat.le_trans hZ hc1.size
 refine ⟨.string (y1), rfl, ?_⟩
 refine wS_pure 1 [(2, .string (y1))] (by kernel_rfl) ?_
 refine wS_end (by rfl) ?_
 refine eX_then ?_
 refine cW_ret ?_
 have hq : (some y1 : Option ((ByteArray))) = some _ := hm
 replace hq := someE hq
 subst hq
 refine eX_ret (vs := [.string (y1)]) [.tmp 2] (by rfl) ⟨by (show lkE _ _ _ = _); kernel_rfl, trivial⟩ ?_
 exact ⟨rfl, hB⟩

set_option maxRecDepth 100000 in
/-- impl.joined -/
theorem c_impl_joined {w0 : World} {l0 : List (ByteArray)} {A0 : Option Addr} {cap0 : Nat} {fp0 : List Nat} {r : (ByteArray)} (hm : m_impl_joined l0 = some r) (F0 : Sl 1 encT w0 fp0 A0 l0) (K0 : (l0).length ≤ cap0) :
  Calls Tryz.prog 39 #[.slice A0 (l0).length cap0] w0 fun e w' => e = .returned (.string (r)) ∧ Chg [] w0 w' := by
 have L0 := F0.low
 have hB : Chg [] w0 w0 := Chg.refl _ _
 have hZ := Nat.le_refl w0.heap.size
 unfold m_impl_joined at hm
 refine enterE (N := 8) Tryz.func39 (by rfl) Tryz.ntmps39 (by simp) [(0, .slice A0 (l0).length cap0)] (by rfl) (by kernel_rfl) (fun a => ?_)
 refine cW_seq ?_
 refine cW_region ?_
 refine wS_pure 1 [(2, .string (ByteArray.mk #[]))] (by kernel_rfl) ?_
 refine wS_end (by rfl) ?_
 refine eX_then ?_
 refine cW_seq ?_
 refine cW_seq ?_
 refine cW_region ?_
 refine wS_pure 3 [(5, .bool ((((l0).length : Int)) == 0)), (4, .int .i64 (((l0).length : Int))), (3, .slice A0 (l0).length cap0)] (by kernel_rfl) ?_
 refine wS_end (by rfl) ?_
 refine eX_then ?_
 refine cW_cond (t := (((l0).length : Int)) == 0) (by kernel_rfl) (fun hb1 => ?_) (fun hb1 => ?_)
 ·have hm := condT hb1 hm
  refine cW_seq ?_
  refine cW_region ?_
  refine wS_pure 1 [(2, .string (ByteArray.mk #[110, 111, 110, 101]))] (by kernel_rfl) ?_
  refine wS_end (by rfl) ?_
  refine eX_then ?_
  refine cW_ret ?_
  refine eX_then_ret ?_
  have hq : (some (ByteArray.mk #[110, 111, 110, 101]) : Option ((ByteArray))) = some _ := hm
  replace hq := someE hq
  subst hq
  refine eX_ret (vs := [.string (ByteArray.mk #[110, 111, 110, 101])]) [.tmp 2] (by rfl) ⟨by (show lkE _ _ _ = _); kernel_rfl, trivial⟩ ?_
  exact ⟨rfl, hB⟩
 ·have hm := condF hb1 hm
  refine cW_skip ?_
  refine eX_then ?_
  refine cW_seq ?_
  refine cW_region ?_
  refine wS_pure 1 [(6, .slice A0 (l0).length cap0)] (by kernel_rfl) ?_
  obtain ⟨y1, hy1, hm⟩ := bindE hm
  refine wS_calls (d := 7) (f := 51) (vs := [.slice A0 (l0).length cap0, .string (ByteArray.mk #[44])]) (by kernel_rfl) ent51 (c_strings_Join hy1 F0 K0) ?_
  rintro _ w1 ⟨rfl, hc1⟩
  replace F0 := F0.chg hc1 Dj.nil
  replace hB := hB.inS hc1 inNil
  replace hZ := Nat.le_trans hZ hc1.size
  refine ⟨.string (y1), rfl, ?_⟩
  refine wS_pure 1 [(2, .string (y1))] (by kernel_rfl) ?_
  refine wS_end (by rfl) ?_
  refine eX_then ?_
  refine cW_ret ?_
  have hq : (some y1 : Option ((ByteArray))) = some _ := hm
  replace hq := someE hq
  subst hq
  refine eX_ret (vs := [.string (y1)]) [.tmp 2] (by rfl) ⟨by (show lkE _ _ _ = _); kernel_rfl, trivial⟩ ?_
  exact ⟨rfl, hB⟩

set_option maxRecDepth 100000 in
/-- impl.pointsText -/
theorem c_impl_pointsText {w0 : World} {l0 : List (Int × Int)} {A0 : Option Addr} {cap0 : Nat} {fp0 : List Nat} {r : (ByteArray)} (hm : m_impl_pointsText l0 = some r) (F0 : Sl 2 encII w0 fp0 A0 l0) :
  Calls Tryz.prog 22 #[.slice A0 (l0).length cap0] w0 fun e w' => e = .returned (.string (r)) ∧ Chg [] w0 w' := by
 have L0 := F0.low
 have hB : Chg [] w0 w0 := Chg.refl _ _
 have hZ := Nat.le_refl w0.heap.size
 unfold m_impl_pointsText at hm
 refine enterE (N := 27) Tryz.func22 (by rfl) Tryz.ntmps22 (by simp) [(0, .slice A0 (l0).length cap0)] (by rfl) (by kernel_rfl) (fun a => ?_)
 refine cW_seq ?_
 refine cW_region ?_
 refine wS_pure 1 [(2, .string (ByteArray.mk #[]))] (by kernel_rfl) ?_
 refine wS_end (by rfl) ?_
 refine eX_then ?_
 refine cW_seq ?_
 refine cW_region ?_
 refine wS_bs0 (α := ByteArray) (enc := encT) (d := 6) (t := 50) (T := 9) (by kernel_rfl) el50 ?_
 intro b1 w1 G1 F1 hc1
 replace F0 := F0.chg hc1 Dj.nil
 replace hB := hB.inS hc1 inNil
 replace G1 := Nat.le_trans hZ G1
 replace G1 := low1 G1
 replace hZ := Nat.le_trans hZ hc1.size
 refine wS_pure 1 [(3, .slice (some ⟨b1, 0, none⟩) (([] : List (ByteArray))).length 0)] (by kernel_rfl) ?_
 refine wS_end (by rfl) ?_
 refine eX_then ?_
 refine cW_seq ?_
 refine cW_seq ?_
 refine cW_region ?_
 refine wS_pure 3 [(9, .int .i64 (0)), (8, .int .i64 (((l0).length : Int))), (7, .slice A0 (l0).length cap0)] (by kernel_rfl) ?_
 refine wS_end (by rfl) ?_
 refine eX_then ?_
 obtain ⟨r1, hr1, hm⟩ := bindE hm
 have hm1 := hm
 refine cW_cut (fun a' w' => ∃ l1 : List (ByteArray), ∃ A1 : Option Addr, ∃ cap1 : Nat, ∃ fp1 : List Nat, l1 = r1 ∧ Fr 27 [(3, .slice A1 (l1).length cap1)] a' ∧ Ow 1 encT 9 w' fp1 A1 cap1 l1 ∧ (∀ x ∈ fp1, w0.heap.size ≤ x) ∧ Chg [] w0 w' ∧ w0.heap.size ≤ w'.heap.size) ?_ ?_
 ·refine cW_block ?_
  refine cW_loop _ (fun (s1 : (List (ByteArray)) × Int) a' w' => ∃ l3 : List (ByteArray), ∃ A3 : Option Addr, ∃ cap3 : Nat, ∃ fp2 : List Nat, ∃ x1 : Int, (l3, x1) = s1 ∧ Fr 27 [(3, .slice A3 (l3).length cap3), (7, .slice A0 (l0).length cap0), (8, .int .i64 (((l0).length : Int))), (9, .int .i64 (x1))] a' ∧ Sl 2 encII w' fp0 A0 l0 ∧ Ow 1 encT 9 w' fp2 A3 cap3 l3 ∧ (∀ x ∈ fp2, w0.heap.size ≤ x) ∧ Chg [] w0 w' ∧ w0.heap.size ≤ w'.heap.size) hr1 (fun hst => ⟨([] : List (ByteArray)), (some ⟨b1, 0, none⟩), 0, [b1], 0, rfl, Fr.of hst (by kernel_rfl), F0, F1, G1, hB, hZ⟩) ?_
  rintro _ c1 a' w2 ⟨l3, A3, cap3, fp2, x1, rfl, hF1, F2, F3, G2, hB, hZ⟩ hx1
  refine Fr.goOn hF1 (by kernel_rfl) ?_
  have hm := hx1
  unfold m_impl_pointsText_s1 at hm
  refine cW_seq ?_
  refine cW_region ?_
  refine wS_pure 1 [(10, .bool (decide (x1 < (((l0).length : Int)))))] (by kernel_rfl) ?_
  refine wS_end (by rfl) ?_
  refine eX_then ?_
  refine cW_seq ?_
  refine cW_cond (t := decide (x1 < (((l0).length : Int)))) (by kernel_rfl) (fun hb1 => ?_) (fun hb1 => ?_)
  ·have hm := condT hb1 hm
   refine cW_skip ?_
   refine eX_then ?_
   refine cW_seq ?_
   refine cW_block ?_
   refine cW_seq ?_
   refine cW_region ?_
   obtain ⟨x2, hx2, hm⟩ := bindE hm
   refine wS_idx (d := 11) (T := 24) (A := A0) (n := (l0).length) (cap := cap0) (kd := .i64) (m := x1) (by kernel_rfl) sl24 (F2.is hx2) ?_
   refine wS_loadA (d := 12) (T := 27) (ad := (elA A0 2 (x1) 0)) (vs := [.int .i64 (x2.1), .int .i64 (x2.2)]) (by kernel_rfl) vt27 (fun i u hu => Sl.cells_at F2 hx2 0 hu (by rfl)) ?_
   refine wS_alloc (d := 5) (T := 27) (z := .agg #[.int .i64 (0), .int .i64 (0)]) (by kernel_rfl) (by kernel_rfl) ?_
   intro b2 w3 G3 F4 hc2
   replace F4 : Cl w3 b2 27 [.int .i64 (0), .int .i64 (0)] := F4
   have D1 : Dj fp2 [b2] := Dj.of F3.low (low1 G3)
   replace F2 := F2.chg hc2 Dj.nil
   replace F3 := F3.chg hc2 Dj.nil
   replace hB := hB.inS hc2 inNil
   replace G3 := Nat.le_trans hZ G3
   replace hZ := Nat.le_trans hZ hc2.size
   refine wS_store (T := 27) (g := b2) (o := 0) (ad := ⟨b2, 0, none⟩) (v := .agg #[.int .i64 (x2.1), .int .i64 (x2.2)]) (vs := [.int .i64 (x2.1), .int .i64 (x2.2)]) (by kernel_rfl) (by rfl) sz27 (by rfl) (by rfl) F4 (by simp only [List.length_cons, List.length_nil]; omega) ?_
   intro w4 F5 hc3
   replace F2 := F2.chg hc3 (Dj.of L0 (low1 G3))
   replace F3 := F3.chg hc3 D1
   replace hB := hB.inS hc3 (inLow (low1 G3))
   replace hZ := Nat.le_trans hZ hc3.size
   replace F5 : Cl w4 b2 27 [.int .i64 (x2.1), .int .i64 (x2.2)] := F5
   clear F4
   refine wS_end (by rfl) ?_
   refine eX_then ?_
   refine cW_drawnTail [] 10 (by kernel_rfl) (by kernel_rfl) (fun w5 hc4 => ?_)
   replace F2 := F2.chg hc4 Dj.nil
   replace F3 := F3.chg hc4 Dj.nil
   replace F5 := F5.chg hc4 notNil
   replace hB := hB.inS hc4 inNil
   replace hZ := Nat.le_trans hZ hc4.size
   have hS := Chg.refl [] w5
   have Z1 := F2
   have Z2 := F3
   have Z3 := F5
   refine wH_take [0, 1] [1, 0] [(14, .pointer (some ⟨b2, 0, none⟩)), (13, .slice A3 (l3).length cap3)] (by kernel_rfl) (qT (qB (qT (qL (qB (qT (qT qZ))))))) (by kernel_rfl) ?_
   refine wH_load1 (i := 2) (d := 15) (T := 2) (ad := ⟨b2, 0, none⟩) (v := .int .i64 (x2.1)) (by kernel_rfl) (qT (qB (qT (qL (qB (qT (qT qZ))))))) (by kernel_rfl) (by kernel_rfl) vt2 (fun W hW => (Z3.chg hW notNil).cell 0) ?_
   refine wH_take [5] [5, 2, 1, 0] [(18, .pointer (some ⟨b2, 1, none⟩))] (by kernel_rfl) (qT (qB (qT (qL (qB (qT (qT qZ))))))) (by kernel_rfl) ?_
   refine wH_load1 (i := 6) (d := 19) (T := 2) (ad := ⟨b2, 1, none⟩) (v := .int .i64 (x2.2)) (by kernel_rfl) (qT (qB (qT (qL (qB (qT (qT qZ))))))) (by kernel_rfl) (by kernel_rfl) vt2 (fun W hW => (Z3.chg hW notNil).cell 1) ?_
   refine wH_all [3] (by rfl) (by kernel_rfl) (by simp) ⟨⟨by kernel_rfl, ?_⟩, trivial⟩
   obtain ⟨y1, hy1, hm⟩ := bindE hm
   refine wS_calls (d := 16) (f := 38) (vs := [.int .i64 (x2.1)]) (by kernel_rfl) ent38 (c_impl_Decimal hy1) ?_
   rintro _ w6 ⟨rfl, hc5⟩
   replace F2 := F2.chg hc5 Dj.nil
   replace F3 := F3.chg hc5 Dj.nil
   replace F5 := F5.chg hc5 notNil
   replace hB := hB.inS hc5 inNil
   have hSz := hS
   replace hS := hS.inS hc5 inNil
   replace hZ := Nat.le_trans hZ hc5.size
   refine ⟨.string (y1), rfl, ?_⟩
   refine wS_end (by kernel_rfl) ?_
   refine eX_KH hS ?_
   obtain ⟨u1, hu1, hm⟩ := bindE hm
   refine wH_sadd (i := 4) (d := 17) (x := y1) (y := ByteArray.mk #[46]) (by kernel_rfl) (qT (qB (qT (qL (qB (qT (qT qZ))))))) (by kernel_rfl) (by kernel_rfl) (sadE hu1) ?_
   refine wH_all [7] (by rfl) (by kernel_rfl) (by simp) ⟨⟨by kernel_rfl, ?_⟩, trivial⟩
   obtain ⟨y2, hy2, hm⟩ := bindE hm
   refine wS_calls (d := 20) (f := 38) (vs := [.int .i64 (x2.2)]) (by kernel_rfl) ent38 (c_impl_Decimal hy2) ?_
   rintro _ w7 ⟨rfl, hc6⟩
   replace F2 := F2.chg hc6 Dj.nil
   replace F3 := F3.chg hc6 Dj.nil
   replace F5 := F5.chg hc6 notNil
   replace hB := hB.inS hc6 inNil
   have hSz := hS
   replace hS := hS.inS hc6 inNil
   replace hZ := Nat.le_trans hZ hc6.size
   refine ⟨.string (y2), rfl, ?_⟩
   refine wS_end (by kernel_rfl) ?_
   refine eX_KH hS ?_
   obtain ⟨u2, hu2, hm⟩ := bindE hm
   refine wH_sadd (i := 8) (d := 21) (x := y1 ++ (ByteArray.mk #[46])) (y := y2) (by kernel_rfl) (qT (qB (qT (qL (qB (qT (qT qZ))))))) (by kernel_rfl) (by kernel_rfl) (sadE hu2) ?_
   refine wH_all [9] (by rfl) (by kernel_rfl) (by simp) ⟨⟨by kernel_rfl, ?_⟩, trivial⟩
   refine wS_bs (enc := encT) ([(y1 ++ (ByteArray.mk #[46])) ++ y2] : List (ByteArray)) [.string ((y1 ++ (ByteArray.mk #[46])) ++ y2)] (d := 22) (t := 50) (T := 9) (n := 1) (ps := [(0, .string ((y1 ++ (ByteArray.mk #[46])) ++ y2))]) (by kernel_rfl) el50 encT_ok (by rfl) (by omega) (by omega) (by kernel_rfl) (by rfl) ?_
   intro b3 w8 G4 F6 hc7
   have D2 : Dj fp2 [b3] := Dj.of F3.low (low1 G4)
   have D3 : Dj [b2] [b3] := Dj.of (lt1 F5.lt) (low1 G4)
   replace F2 := F2.chg hc7 Dj.nil
   replace F3 := F3.chg hc7 Dj.nil
   replace F5 := F5.chg hc7 notNil
   replace hB := hB.inS hc7 inNil
   have hSz := hS
   replace hS := hS.inS hc7 inNil
   have Gz1 := low1 (Nat.le_trans hSz.size G4)
   replace G4 := Nat.le_trans hZ G4
   replace G4 := low1 G4
   replace hZ := Nat.le_trans hZ hc7.size
   refine wS_end (by kernel_rfl) ?_
   refine eX_KH hS ?_
   refine wH_done (by kernel_rfl) ?_
   refine eX_tail ?_
   obtain ⟨_, hk1, hm⟩ := bindE hm
   replace hk1 := apE hk1
   refine wS_append (enc := encT) (l := (l3 : List (ByteArray))) (l2 := (([(y1 ++ (ByteArray.mk #[46])) ++ y2] : List (ByteArray)) : List (ByteArray))) (d := 23) (t := 50) (T := 9) (A := A3) (A2 := (some ⟨b3, 0, none⟩)) (cap := cap3) (cap2 := 1) (by kernel_rfl) el50 encT_ok F3 (F6.sl encT_ok) (by rfl) hk1 ?_
   intro w9 fp3 A4 cap4 F7 hc8 hp1
   have G5 := low_ap G2 hZ hp1
   have D4 : Dj [b2] fp3 := Dj.ap (D1).symm (lt1 F5.lt) hp1
   have D5 : Dj [b3] fp3 := Dj.ap (D2).symm F6.low hp1
   replace F2 := F2.chg hc8 (Dj.of L0 G2)
   replace F5 := F5.chg hc8 (dj1 (D1).symm)
   replace F6 := F6.chg hc8 (D2).symm
   replace hB := hB.inS hc8 (inLow G2)
   replace hZ := Nat.le_trans hZ hc8.size
   refine wS_pure 1 [(3, .slice A4 (l3 ++ (([(y1 ++ (ByteArray.mk #[46])) ++ y2] : List (ByteArray)))).length cap4)] (by kernel_rfl) ?_
   refine wS_end (by rfl) ?_
   refine eX_block ?_
   refine eX_then ?_
   refine cW_region ?_
   refine wS_pure 2 [(9, .int .i64 (wr (x1 + 1))), (24, .int .i64 (wr (x1 + 1)))] (by kernel_rfl) ?_
   refine wS_end (by rfl) ?_
   have hq : (some (Ctl.next ((l3 ++ (([(y1 ++ (ByteArray.mk #[46])) ++ y2] : List (ByteArray))), wr (x1 + 1)))) : Option (Ctl ((List (ByteArray)) × Int) ((List (ByteArray))))) = some _ := hm
   replace hq := someE hq
   subst hq
   exact eX_next hx1 (fun hst => ⟨l3 ++ (([(y1 ++ (ByteArray.mk #[46])) ++ y2] : List (ByteArray))), A4, cap4, fp3, wr (x1 + 1), rfl, Fr.of hst (by kernel_rfl), F2, F7, G5, hB, hZ⟩)
  ·have hm := condF hb1 hm
   refine cW_exit ?_
   refine eX_then_exit ?_
   have hq : (some (Ctl.out l3) : Option (Ctl ((List (ByteArray)) × Int) ((List (ByteArray))))) = some _ := hm
   replace hq := someE hq
   subst hq
   refine eX_outX hx1 (fun hr2 => ?_)
   replace hr2 := hr2.symm
   subst hr2
   refine eX_block_hit ?_
   exact eX_J (fun hst => ⟨l3, A3, cap3, fp2, rfl, Fr.of hst (by kernel_rfl), F3, G2, hB, hZ⟩)
 ·rintro a' w10 ⟨l1, A1, cap1, fp1, hJ, hF2, F8, G6, hB, hZ⟩
  subst hJ
  refine Fr.goX hF2 (by kernel_rfl) ?_
  refine eX_then ?_
  refine cW_seq ?_
  refine cW_region ?_
  refine wS_pure 1 [(25, .slice A1 (l1).length cap1)] (by kernel_rfl) ?_
  obtain ⟨y3, hy3, hm⟩ := bindE hm
  refine wS_calls (d := 26) (f := 39) (vs := [.slice A1 (l1).length cap1]) (by kernel_rfl) ent39 (c_impl_joined hy3 (F8.sl encT_ok) F8.cap_le) ?_
  rintro _ w11 ⟨rfl, hc9⟩
  replace F8 := F8.chg hc9 Dj.nil
  replace hB := hB.inS hc9 inNil
  replace hZ := Nat.le_trans hZ hc9.size
  refine ⟨.string (y3), rfl, ?_⟩
  refine wS_pure 1 [(2, .string (y3))] (by kernel_rfl) ?_
  refine wS_end (by rfl) ?_
  refine eX_then ?_
  refine cW_ret ?_
  have hq : (some y3 : Option ((ByteArray))) = some _ := hm
  replace hq := someE hq
  subst hq
  refine eX_ret (vs := [.string (y3)]) [.tmp 2] (by rfl) ⟨by (show lkE _ _ _ = _); kernel_rfl, trivial⟩ ?_
  exact ⟨rfl, hB⟩

set_option maxRecDepth 100000 in
/-- impl.PointsText -/
theorem c_impl_PointsText {w0 : World} {l0 : List (Int × Int)} {A0 : Option Addr} {cap0 : Nat} {fp0 : List Nat} {r : (ByteArray) × (Bool)} (hm : m_impl_PointsText l0 = some r) (F0 : Sl 2 encII w0 fp0 A0 l0) :
  Calls Tryz.prog 8 #[.slice A0 (l0).length cap0] w0 fun e w' => e = .returned (.tuple #[.string (r.1), .bool (r.2)]) ∧ Chg [] w0 w' := by
 have L0 := F0.low
 have hB : Chg [] w0 w0 := Chg.refl _ _
 have hZ := Nat.le_refl w0.heap.size
 unfold m_impl_PointsText at hm
 refine enterE (N := 9) Tryz.func8 (by rfl) Tryz.ntmps8 (by simp) [(0, .slice A0 (l0).length cap0)] (by rfl) (by kernel_rfl) (fun a => ?_)
 refine cW_seq ?_
 refine cW_region ?_
 refine wS_pure 2 [(3, .bool (false)), (2, .string (ByteArray.mk #[]))] (by kernel_rfl) ?_
 refine wS_end (by rfl) ?_
 refine eX_then ?_
 refine cW_seq ?_
 refine cW_seq ?_
 refine cW_region ?_
 refine wS_pure 1 [(4, .slice A0 (l0).length cap0)] (by kernel_rfl) ?_
 obtain ⟨y1, hy1, hm⟩ := bindE hm
 refine wS_calls (d := 5) (f := 10) (vs := [.slice A0 (l0).length cap0]) (by kernel_rfl) ent10 (c_impl_ArePoints hy1 F0) ?_
 rintro _ w1 ⟨rfl, hc1⟩
 replace F0 := F0.chg hc1 Dj.nil
 replace hB := hB.inS hc1 inNil
 replace hZ := Nat.le_trans hZ hc1.size
 refine ⟨.bool (y1), rfl, ?_⟩
 refine wS_pure 1 [(6, .bool (!y1))] (by kernel_rfl) ?_
 refine wS_end (by rfl) ?_
 refine eX_then ?_
 refine cW_cond (t := !y1) (by kernel_rfl) (fun hb1 => ?_) (fun hb1 => ?_)
 ·have hm := condT hb1 hm
  refine cW_seq ?_
  refine cW_region ?_
  refine wS_pure 2 [(3, .bool (false)), (2, .string (ByteArray.mk #[]))] (by kernel_rfl) ?_
  refine wS_end (by rfl) ?_
  refine eX_then ?_
  refine cW_ret ?_
  refine eX_then_ret ?_
  have hq : (some ((ByteArray.mk #[], false)) : Option ((ByteArray) × (Bool))) = some _ := hm
  replace hq := someE hq
  subst hq
  refine eX_ret (vs := [.string (ByteArray.mk #[]), .bool (false)]) [.tmp 2, .tmp 3] (by rfl) ⟨by (show lkE _ _ _ = _); kernel_rfl, ⟨by (show lkE _ _ _ = _); kernel_rfl, trivial⟩⟩ ?_
  exact ⟨rfl, hB⟩
 ·have hm := condF hb1 hm
  refine cW_skip ?_
  refine eX_then ?_
  refine cW_seq ?_
  refine cW_region ?_
  refine wS_pure 1 [(7, .slice A0 (l0).length cap0)] (by kernel_rfl) ?_
  obtain ⟨y2, hy2, hm⟩ := bindE hm
  refine wS_calls (d := 8) (f := 22) (vs := [.slice A0 (l0).length cap0]) (by kernel_rfl) ent22 (c_impl_pointsText hy2 F0) ?_
  rintro _ w2 ⟨rfl, hc2⟩
  replace F0 := F0.chg hc2 Dj.nil
  replace hB := hB.inS hc2 inNil
  replace hZ := Nat.le_trans hZ hc2.size
  refine ⟨.string (y2), rfl, ?_⟩
  refine wS_pure 2 [(3, .bool (true)), (2, .string (y2))] (by kernel_rfl) ?_
  refine wS_end (by rfl) ?_
  refine eX_then ?_
  refine cW_ret ?_
  have hq : (some ((y2, true)) : Option ((ByteArray) × (Bool))) = some _ := hm
  replace hq := someE hq
  subst hq
  refine eX_ret (vs := [.string (y2), .bool (true)]) [.tmp 2, .tmp 3] (by rfl) ⟨by (show lkE _ _ _ = _); kernel_rfl, ⟨by (show lkE _ _ _ = _); kernel_rfl, trivial⟩⟩ ?_
  exact ⟨rfl, hB⟩

set_option maxRecDepth 100000 in
/-- strings.Split -/
theorem c_strings_Split {w0 : World} {p0 : ByteArray} {p1 : ByteArray} {r : (List (ByteArray))} (hm : m_strings_Split p0 p1 = some r)  :
  Calls Tryz.prog 40 #[.string (p0), .string (p1)] w0 fun e w' => ∃ A100 cap100 fp100, e = .returned (.slice A100 (r).length cap100) ∧ Ow 1 encT 9 w' fp100 A100 cap100 r ∧ (∀ x ∈ fp100, w0.heap.size ≤ x) ∧ Chg [] w0 w' := by
 have hB : Chg [] w0 w0 := Chg.refl _ _
 have hZ := Nat.le_refl w0.heap.size
 unfold m_strings_Split at hm
 refine enterE (N := 8) Tryz.func40 (by rfl) Tryz.ntmps40 (by simp) [(0, .string (p0)), (1, .string (p1))] (by rfl) (by kernel_rfl) (fun a => ?_)
 refine cW_seq ?_
 refine cW_region ?_
 refine wS_pure 1 [(4, .slice none 0 0)] (by kernel_rfl) ?_
 refine wS_end (by rfl) ?_
 refine eX_then ?_
 refine cW_seq ?_
 refine cW_region ?_
 refine wS_pure 2 [(6, .string (p1)), (5, .string (p0))] (by kernel_rfl) ?_
 obtain ⟨y1, hy1, hm⟩ := bindE hm
 refine wS_calls (d := 7) (f := 52) (vs := [.string (p0), .string (p1), .int .i64 (0), .int .i64 ((-1))]) (by kernel_rfl) ent52 (c_strings_genSplit hy1) ?_
 rintro _ w1 ⟨A1, cap1, fp1, rfl, F1, G1, hc1⟩
 replace hB := hB.inS hc1 inNil
 replace G1 := low_le hZ G1
 replace hZ := Nat.le_trans hZ hc1.size
 refine ⟨.slice A1 (y1).length cap1, rfl, ?_⟩
 refine wS_pure 1 [(4, .slice A1 (y1).length cap1)] (by kernel_rfl) ?_
 refine wS_end (by rfl) ?_
 refine eX_then ?_
 refine cW_ret ?_
 have hq : (some y1 : Option ((List (ByteArray)))) = some _ := hm
 replace hq := someE hq
 subst hq
 refine eX_ret (vs := [.slice A1 (y1).length cap1]) [.tmp 4] (by rfl) ⟨by (show lkE _ _ _ = _); kernel_rfl, trivial⟩ ?_
 exact ⟨A1, cap1, fp1, rfl, F1, G1, hB⟩

set_option maxRecDepth 100000 in
/-- impl.parted -/
theorem c_impl_parted {w0 : World} {p0 : ByteArray} {r : (List (ByteArray))} (hm : m_impl_parted p0 = some r)  :
  Calls Tryz.prog 23 #[.string (p0)] w0 fun e w' => ∃ A100 cap100 fp100, e = .returned (.slice A100 (r).length cap100) ∧ Ow 1 encT 9 w' fp100 A100 cap100 r ∧ (∀ x ∈ fp100, w0.heap.size ≤ x) ∧ Chg [] w0 w' := by
 have hB : Chg [] w0 w0 := Chg.refl _ _
 have hZ := Nat.le_refl w0.heap.size
 unfold m_impl_parted at hm
 refine enterE (N := 7) Tryz.func23 (by rfl) Tryz.ntmps23 (by simp) [(0, .string (p0))] (by rfl) (by kernel_rfl) (fun a => ?_)
 refine cW_seq ?_
 refine cW_region ?_
 refine wS_pure 1 [(2, .slice none 0 0)] (by kernel_rfl) ?_
 refine wS_end (by rfl) ?_
 refine eX_then ?_
 refine cW_seq ?_
 refine cW_seq ?_
 refine cW_region ?_
 refine wS_pure 2 [(4, .bool ((p0).toList == (ByteArray.mk #[110, 111, 110, 101]).toList)), (3, .string (p0))] (by kernel_rfl) ?_
 refine wS_end (by rfl) ?_
 refine eX_then ?_
 refine cW_cond (t := (p0).toList == (ByteArray.mk #[110, 111, 110, 101]).toList) (by kernel_rfl) (fun hb1 => ?_) (fun hb1 => ?_)
 ·have hm := condT hb1 hm
  refine cW_seq ?_
  refine cW_region ?_
  refine wS_pure 1 [(2, .slice none 0 0)] (by kernel_rfl) ?_
  refine wS_end (by rfl) ?_
  refine eX_then ?_
  refine cW_ret ?_
  refine eX_then_ret ?_
  have hq : (some ([]) : Option ((List (ByteArray)))) = some _ := hm
  replace hq := someE hq
  subst hq
  refine eX_ret (vs := [.slice none 0 0]) [.tmp 2] (by rfl) ⟨by (show lkE _ _ _ = _); kernel_rfl, trivial⟩ ?_
  exact ⟨none, 0, [], rfl, Ow.nil _, lowNil, hB⟩
 ·have hm := condF hb1 hm
  refine cW_skip ?_
  refine eX_then ?_
  refine cW_seq ?_
  refine cW_region ?_
  refine wS_pure 1 [(5, .string (p0))] (by kernel_rfl) ?_
  obtain ⟨y1, hy1, hm⟩ := bindE hm
  refine wS_calls (d := 6) (f := 40) (vs := [.string (p0), .string (ByteArray.mk #[44])]) (by kernel_rfl) ent40 (c_strings_Split hy1) ?_
  rintro _ w1 ⟨A1, cap1, fp1, rfl, F1, G1, hc1⟩
  replace hB := hB.inS hc1 inNil
  replace G1 := low_le hZ G1
  replace hZ := Nat.le_trans hZ hc1.size
  refine ⟨.slice A1 (y1).length cap1, rfl, ?_⟩
  refine wS_pure 1 [(2, .slice A1 (y1).length cap1)] (by kernel_rfl) ?_
  refine wS_end (by rfl) ?_
  refine eX_then ?_
  refine cW_ret ?_
  have hq : (some y1 : Option ((List (ByteArray)))) = some _ := hm
  replace hq := someE hq
  subst hq
  refine eX_ret (vs := [.slice A1 (y1).length cap1]) [.tmp 2] (by rfl) ⟨by (show lkE _ _ _ = _); kernel_rfl, trivial⟩ ?_
  exact ⟨A1, cap1, fp1, rfl, F1, G1, hB⟩

set_option maxRecDepth 100000 in
/-- impl.ReadDecimal -/
theorem c_impl_ReadDecimal {w0 : World} {p0 : ByteArray} {r : (Int) × (Bool)} (hm : m_impl_ReadDecimal p0 = some r)  :
  Calls Tryz.prog 25 #[.string (p0)] w0 fun e w' => e = .returned (.tuple #[.int .i64 (r.1), .bool (r.2)]) ∧ Chg [] w0 w' := by
 have hB : Chg [] w0 w0 := Chg.refl _ _
 have hZ := Nat.le_refl w0.heap.size
 unfold m_impl_ReadDecimal at hm
 refine enterE (N := 25) Tryz.func25 (by rfl) Tryz.ntmps25 (by simp) [(0, .string (p0))] (by rfl) (by kernel_rfl) (fun a => ?_)
 refine cW_seq ?_
 refine cW_region ?_
 refine wS_pure 2 [(3, .bool (false)), (2, .int .i64 (0))] (by kernel_rfl) ?_
 refine wS_end (by rfl) ?_
 refine eX_then ?_
 refine cW_seq ?_
 refine cW_region ?_
 refine wS_pure 1 [(7, .string (p0))] (by kernel_rfl) ?_
 obtain ⟨y1, hy1, hm⟩ := bindE hm
 refine wS_calls (d := 8) (f := 42) (vs := [.string (p0), .int .i64 (10), .int .i64 (64)]) (by kernel_rfl) ent42 (c_strconv_ParseInt hy1) ?_
 rintro _ w1 ⟨rfl, hc1⟩
 replace hB := hB.inS hc1 inNil
 replace hZ := Nat.le_trans hZ hc1.size
 refine ⟨.tuple #[.int .i64 (y1), .nilIface], rfl, ?_⟩
 refine wS_pure 5 [(5, .nilIface), (4, .int .i64 (y1)), (10, .nilIface), (9, .int .i64 (y1)), (6, .tuple #[.int .i64 (y1), .nilIface])] (by kernel_rfl) ?_
 refine wS_end (by rfl) ?_
 refine eX_then ?_
 refine cW_seq ?_
 refine cW_seq ?_
 refine cW_region ?_
 refine wS_pure 4 [(14, .int .i64 (y1)), (13, .bool (false)), (12, .bool (false)), (11, .nilIface)] (by kernel_rfl) ?_
 obtain ⟨y2, hy2, hm⟩ := bindE hm
 refine wS_calls (d := 15) (f := 43) (vs := [.int .i64 (y1), .int .i64 ((-1000000000)), .int .i64 (1000000000)]) (by kernel_rfl) ent43 (c_impl_in hy2) ?_
 rintro _ w2 ⟨rfl, hc2⟩
 replace hB := hB.inS hc2 inNil
 replace hZ := Nat.le_trans hZ hc2.size
 refine ⟨.bool (y2), rfl, ?_⟩
 refine wS_pure 3 [(18, .bool (!y2)), (17, .bool (!y2)), (16, .bool (!y2))] (by kernel_rfl) ?_
 refine wS_bool (!y2) (fun hb1 => ?_) (fun hb1 => ?_)
 ·have hm := condT hb1 hm
  rewrite [hb1]
  refine wS_pure 5 [(23, .bool (true)), (22, undef), (21, undef), (20, undef), (19, undef)] (by kernel_rfl) ?_
  refine wS_end (by rfl) ?_
  refine eX_then ?_
  refine cW_cond_t (by kernel_rfl) ?_
  refine cW_seq ?_
  refine cW_region ?_
  refine wS_pure 2 [(3, .bool (false)), (2, .int .i64 (0))] (by kernel_rfl) ?_
  refine wS_end (by rfl) ?_
  refine eX_then ?_
  refine cW_ret ?_
  refine eX_then_ret ?_
  have hq : (some ((0, false)) : Option ((Int) × (Bool))) = some _ := hm
  replace hq := someE hq
  subst hq
  refine eX_ret (vs := [.int .i64 (0), .bool (false)]) [.tmp 2, .tmp 3] (by rfl) ⟨by (show lkE _ _ _ = _); kernel_rfl, ⟨by (show lkE _ _ _ = _); kernel_rfl, trivial⟩⟩ ?_
  exact ⟨rfl, hB⟩
 ·have hm := condF hb1 hm
  rewrite [hb1]
  refine wS_pure 1 [(19, .int .i64 (y1))] (by kernel_rfl) ?_
  obtain ⟨y3, hy3, hm⟩ := bindE hm
  refine wS_calls (d := 20) (f := 38) (vs := [.int .i64 (y1)]) (by kernel_rfl) ent38 (c_impl_Decimal hy3) ?_
  rintro _ w3 ⟨rfl, hc3⟩
  replace hB := hB.inS hc3 inNil
  replace hZ := Nat.le_trans hZ hc3.size
  refine ⟨.string (y3), rfl, ?_⟩
  refine wS_pure 3 [(23, .bool (!((y3).toList == (p0).toList))), (22, .bool (!((y3).toList == (p0).toList))), (21, .string (p0))] (by kernel_rfl) ?_
  refine wS_end (by rfl) ?_
  refine eX_then ?_
  refine cW_cond (t := !((y3).toList == (p0).toList)) (by kernel_rfl) (fun hb2 => ?_) (fun hb2 => ?_)
  ·have hm := condT hb2 hm
   refine cW_seq ?_
   refine cW_region ?_
   refine wS_pure 2 [(3, .bool (false)), (2, .int .i64 (0))] (by kernel_rfl) ?_
   refine wS_end (by rfl) ?_
   refine eX_then ?_
   refine cW_ret ?_
   refine eX_then_ret ?_
   have hq : (some ((0, false)) : Option ((Int) × (Bool))) = some _ := hm
   replace hq := someE hq
   subst hq
   refine eX_ret (vs := [.int .i64 (0), .bool (false)]) [.tmp 2, .tmp 3] (by rfl) ⟨by (show lkE _ _ _ = _); kernel_rfl, ⟨by (show lkE _ _ _ = _); kernel_rfl, trivial⟩⟩ ?_
   exact ⟨rfl, hB⟩
  ·have hm := condF hb2 hm
   refine cW_skip ?_
   refine eX_then ?_
   refine cW_seq ?_
   refine cW_region ?_
   refine wS_pure 3 [(3, .bool (true)), (2, .int .i64 (y1)), (24, .int .i64 (y1))] (by kernel_rfl) ?_
   refine wS_end (by rfl) ?_
   refine eX_then ?_
   refine cW_prune [(2, .int .i64 (y1)), (3, .bool (true))] (by kernel_rfl) (by kernel_rfl) (fun a1 => ?_)
   refine cW_ret ?_
   have hq : (some ((y1, true)) : Option ((Int) × (Bool))) = some _ := hm
   replace hq := someE hq
   subst hq
   refine eX_ret (vs := [.int .i64 (y1), .bool (true)]) [.tmp 2, .tmp 3] (by rfl) ⟨by (show lkE _ _ _ = _); kernel_rfl, ⟨by (show lkE _ _ _ = _); kernel_rfl, trivial⟩⟩ ?_
   exact ⟨rfl, hB⟩

set_option maxRecDepth 100000 in
/-- stringslite.Cut -/
theorem c_internal_stringslite_Cut {w0 : World} {p0 : ByteArray} {p1 : ByteArray} {r : (ByteArray) × (ByteArray) × (Bool)} (hm : m_internal_stringslite_Cut p0 p1 = some r)  :
  Calls Tryz.prog 41 #[.string (p0), .string (p1)] w0 fun e w' => e = .returned (.tuple #[.string (r.1), .string (r.2.1), .bool (r.2.2)]) ∧ Chg [] w0 w' := by
 have hB : Chg [] w0 w0 := Chg.refl _ _
 have hZ := Nat.le_refl w0.heap.size
 unfold m_internal_stringslite_Cut at hm
 refine enterE (N := 23) Tryz.func41 (by rfl) Tryz.ntmps41 (by simp) [(0, .string (p0)), (1, .string (p1))] (by rfl) (by kernel_rfl) (fun a => ?_)
 refine cW_seq ?_
 refine cW_region ?_
 refine wS_pure 3 [(6, .bool (false)), (5, .string (ByteArray.mk #[])), (4, .string (ByteArray.mk #[]))] (by kernel_rfl) ?_
 refine wS_end (by rfl) ?_
 refine eX_then ?_
 refine cW_seq ?_
 refine cW_seq ?_
 refine cW_region ?_
 refine wS_pure 2 [(9, .string (p1)), (8, .string (p0))] (by kernel_rfl) ?_
 obtain ⟨y1, hy1, hm⟩ := bindE hm
 refine wS_calls (d := 10) (f := 53) (vs := [.string (p0), .string (p1)]) (by kernel_rfl) ent53 (c_internal_stringslite_Index hy1) ?_
 rintro _ w1 ⟨rfl, hc1⟩
 replace hB := hB.inS hc1 inNil
 replace hZ := Nat.le_trans hZ hc1.size
 refine ⟨.int .i64 (y1), rfl, ?_⟩
 refine wS_pure 1 [(7, .int .i64 (y1))] (by kernel_rfl) ?_
 refine wS_end (by rfl) ?_
 refine eX_then ?_
 refine cW_seq ?_
 refine cW_region ?_
 refine wS_pure 2 [(12, .bool (decide (y1 ≥ 0))), (11, .int .i64 (y1))] (by kernel_rfl) ?_
 refine wS_end (by rfl) ?_
 refine eX_then ?_
 refine cW_cond (t := decide (y1 ≥ 0)) (by kernel_rfl) (fun hb1 => ?_) (fun hb1 => ?_)
 ·have hm := condT hb1 hm
  refine cW_seq ?_
  refine cW_drawnTail [] 10 (by kernel_rfl) (by kernel_rfl) (fun w2 hc2 => ?_)
  replace hB := hB.inS hc2 inNil
  replace hZ := Nat.le_trans hZ hc2.size
  have hS := Chg.refl [] w2
  refine wH_take [0, 1] [1, 0] [(14, .int .i64 (y1)), (13, .string (p0))] (by kernel_rfl) (qT (qT (qT qZ))) (by kernel_rfl) ?_
  obtain ⟨u1, hu1, hm⟩ := bindE hm
  refine wH_ssl (i := 2) (d := 15) (T := 9) (s := p0) (none) (some y1) (by kernel_rfl) (qT (qT (qT qZ))) (by kernel_rfl) (by kernel_rfl) sty9 (sslE hu1) ?_
  refine wH_take [3, 4, 5, 6, 7] [7, 6, 5, 4, 3, 2, 1, 0] [(20, .int .i64 (wr (y1 + (((p1).size : Int))))), (19, .int .i64 (((p1).size : Int))), (18, .string (p1)), (17, .int .i64 (y1)), (16, .string (p0))] (by kernel_rfl) (qT (qT (qT qZ))) (by kernel_rfl) ?_
  obtain ⟨u2, hu2, hm⟩ := bindE hm
  refine wH_ssl (i := 8) (d := 21) (T := 9) (s := p0) (some (wr (y1 + (((p1).size : Int))))) (none) (by kernel_rfl) (qT (qT (qT qZ))) (by kernel_rfl) (by kernel_rfl) sty9 (sslE hu2) ?_
  refine wH_take [9] [9, 8, 7, 6, 5, 4, 3, 2, 1, 0] [(4, .string (ssl p0 0 y1))] (by kernel_rfl) (qT (qT (qT qZ))) (by kernel_rfl) ?_
  refine wH_done (by kernel_rfl) ?_
  refine eX_tail ?_
  refine wS_pure 2 [(6, .bool (true)), (5, .string (ssl p0 (wr (y1 + (((p1).size : Int)))) (((p0).size : Int))))] (by kernel_rfl) ?_
  refine wS_end (by rfl) ?_
  refine eX_then ?_
  refine cW_ret ?_
  refine eX_then_ret ?_
  have hq : (some ((ssl p0 0 y1, ssl p0 (wr (y1 + (((p1).size : Int)))) (((p0).size : Int)), true)) : Option ((ByteArray) × (ByteArray) × (Bool))) = some _ := hm
  replace hq := someE hq
  subst hq
  refine eX_ret (vs := [.string (ssl p0 0 y1), .string (ssl p0 (wr (y1 + (((p1).size : Int)))) (((p0).size : Int))), .bool (true)]) [.tmp 4, .tmp 5, .tmp 6] (by rfl) ⟨by (show lkE _ _ _ = _); kernel_rfl, ⟨by (show lkE _ _ _ = _); kernel_rfl, ⟨by (show lkE _ _ _ = _); kernel_rfl, trivial⟩⟩⟩ ?_
  exact ⟨rfl, hB⟩
 ·have hm := condF hb1 hm
  refine cW_skip ?_
  refine eX_then ?_
  refine cW_seq ?_
  refine cW_region ?_
  refine wS_pure 4 [(6, .bool (false)), (5, .string (ByteArray.mk #[])), (4, .string (p0)), (22, .string (p0))] (by kernel_rfl) ?_
  refine wS_end (by rfl) ?_
  refine eX_then ?_
  refine cW_ret ?_
  have hq : (some ((p0, ByteArray.mk #[], false)) : Option ((ByteArray) × (ByteArray) × (Bool))) = some _ := hm
  replace hq := someE hq
  subst hq
  refine eX_ret (vs := [.string (p0), .string (ByteArray.mk #[]), .bool (false)]) [.tmp 4, .tmp 5, .tmp 6] (by rfl) ⟨by (show lkE _ _ _ = _); kernel_rfl, ⟨by (show lkE _ _ _ = _); kernel_rfl, ⟨by (show lkE _ _ _ = _); kernel_rfl, trivial⟩⟩⟩ ?_
  exact ⟨rfl, hB⟩

set_option maxRecDepth 100000 in
/-- strings.Cut -/
theorem c_strings_Cut {w0 : World} {p0 : ByteArray} {p1 : ByteArray} {r : (ByteArray) × (ByteArray) × (Bool)} (hm : m_strings_Cut p0 p1 = some r)  :
  Calls Tryz.prog 24 #[.string (p0), .string (p1)] w0 fun e w' => e = .returned (.tuple #[.string (r.1), .string (r.2.1), .bool (r.2.2)]) ∧ Chg [] w0 w' := by
 have hB : Chg [] w0 w0 := Chg.refl _ _
 have hZ := Nat.le_refl w0.heap.size
 unfold m_strings_Cut at hm
 refine enterE (N := 13) Tryz.func24 (by rfl) Tryz.ntmps24 (by simp) [(0, .string (p0)), (1, .string (p1))] (by rfl) (by kernel_rfl) (fun a => ?_)
 refine cW_seq ?_
 refine cW_region ?_
 refine wS_pure 3 [(6, .bool (false)), (5, .string (ByteArray.mk #[])), (4, .string (ByteArray.mk #[]))] (by kernel_rfl) ?_
 refine wS_end (by rfl) ?_
 refine eX_then ?_
 refine cW_seq ?_
 refine cW_region ?_
 refine wS_pure 2 [(8, .string (p1)), (7, .string (p0))] (by kernel_rfl) ?_
 obtain ⟨y1, hy1, hm⟩ := bindE hm
 refine wS_calls (d := 9) (f := 41) (vs := [.string (p0), .string (p1)]) (by kernel_rfl) ent41 (c_internal_stringslite_Cut hy1) ?_
 rintro _ w1 ⟨rfl, hc1⟩
 replace hB := hB.inS hc1 inNil
 replace hZ := Nat.le_trans hZ hc1.size
 refine ⟨.tuple #[.string (y1.1), .string (y1.2.1), .bool (y1.2.2)], rfl, ?_⟩
 refine wS_pure 6 [(6, .bool (y1.2.2)), (5, .string (y1.2.1)), (4, .string (y1.1)), (12, .bool (y1.2.2)), (11, .string (y1.2.1)), (10, .string (y1.1))] (by kernel_rfl) ?_
 refine wS_end (by rfl) ?_
 refine eX_then ?_
 refine cW_ret ?_
 have hq : (some ((y1.1, y1.2.1, y1.2.2)) : Option ((ByteArray) × (ByteArray) × (Bool))) = some _ := hm
 replace hq := someE hq
 subst hq
 refine eX_ret (vs := [.string (y1.1), .string (y1.2.1), .bool (y1.2.2)]) [.tmp 4, .tmp 5, .tmp 6] (by rfl) ⟨by (show lkE _ _ _ = _); kernel_rfl, ⟨by (show lkE _ _ _ = _); kernel_rfl, ⟨by (show lkE _ _ _ = _); kernel_rfl, trivial⟩⟩⟩ ?_
 exact ⟨rfl, hB⟩

set_option maxRecDepth 100000 in
/-- impl.ReadPoints -/
theorem c_impl_ReadPoints {w0 : World} {p0 : ByteArray} {r : (List (Int × Int)) × (Bool)} (hm : m_impl_ReadPoints p0 = some r)  :
  Calls Tryz.prog 9 #[.string (p0)] w0 fun e w' => ∃ A100 cap100 fp100, e = .returned (.tuple #[.slice A100 (r.1).length cap100, .bool (r.2)]) ∧ Ow 2 encII 27 w' fp100 A100 cap100 r.1 ∧ (∀ x ∈ fp100, w0.heap.size ≤ x) ∧ Chg [] w0 w' := by
 have hB : Chg [] w0 w0 := Chg.refl _ _
 have hZ := Nat.le_refl w0.heap.size
 unfold m_impl_ReadPoints at hm
 refine enterE (N := 64) Tryz.func9 (by rfl) Tryz.ntmps9 (by simp) [(0, .string (p0))] (by rfl) (by kernel_rfl) (fun a => ?_)
 refine cW_seq ?_
 refine cW_region ?_
 refine wS_pure 2 [(3, .bool (false)), (2, .slice none 0 0)] (by kernel_rfl) ?_
 refine wS_end (by rfl) ?_
 refine eX_then ?_
 refine cW_seq ?_
 refine cW_region ?_
 refine wS_bs0 (α := Int × Int) (enc := encII) (d := 14) (t := 24) (T := 27) (by kernel_rfl) el24 ?_
 intro b1 w1 G1 F1 hc1
 replace hB := hB.inS hc1 inNil
 replace G1 := Nat.le_trans hZ G1
 replace G1 := low1 G1
 replace hZ := Nat.le_trans hZ hc1.size
 refine wS_pure 1 [(4, .slice (some ⟨b1, 0, none⟩) (([] : List (Int × Int))).length 0)] (by kernel_rfl) ?_
 refine wS_end (by rfl) ?_
 refine eX_then ?_
 refine cW_seq ?_
 refine cW_seq ?_
 refine cW_region ?_
 refine wS_pure 1 [(15, .string (p0))] (by kernel_rfl) ?_
 obtain ⟨y1, hy1, hm⟩ := bindE hm
 refine wS_calls (d := 16) (f := 23) (vs := [.string (p0)]) (by kernel_rfl) ent23 (c_impl_parted hy1) ?_
 rintro _ w2 ⟨A1, cap1, fp1, rfl, F2, G2, hc2⟩
 have D1 : Dj [b1] fp1 := Dj.of F1.low G2
 replace F1 := F1.chg hc2 Dj.nil
 replace hB := hB.inS hc2 inNil
 replace G2 := low_le hZ G2
 replace hZ := Nat.le_trans hZ hc2.size
 refine ⟨.slice A1 (y1).length cap1, rfl, ?_⟩
 refine wS_pure 2 [(18, .int .i64 (0)), (17, .int .i64 (((y1).length : Int)))] (by kernel_rfl) ?_
 refine wS_end (by rfl) ?_
 refine eX_then ?_
 obtain ⟨r1, hr1, hm⟩ := bindE hm
 have hm1 := hm
 refine cW_cut (fun a' w' => ∃ l1 : List (Int × Int), ∃ A3 : Option Addr, ∃ cap3 : Nat, ∃ fp2 : List Nat, Sum.inl l1 = r1 ∧ Fr 64 [(4, .slice A3 (l1).length cap3)] a' ∧ Ow 2 encII 27 w' fp2 A3 cap3 l1 ∧ (∀ x ∈ fp2, w0.heap.size ≤ x) ∧ Chg [] w0 w' ∧ w0.heap.size ≤ w'.heap.size) ?_ ?_
 ·refine cW_block ?_
  refine cW_loop _ (fun (s1 : (List (Int × Int)) × Int) a' w' => ∃ l3 : List (Int × Int), ∃ A4 : Option Addr, ∃ cap4 : Nat, ∃ fp3 : List Nat, ∃ x1 : Int, (l3, x1) = s1 ∧ Fr 64 [(4, .slice A4 (l3).length cap4), (16, .slice A1 (y1).length cap1), (17, .int .i64 (((y1).length : Int))), (18, .int .i64 (x1))] a' ∧ Ow 1 encT 9 w' fp1 A1 cap1 y1 ∧ Ow 2 encII 27 w' fp3 A4 cap4 l3 ∧ (∀ x ∈ fp3, w0.heap.size ≤ x) ∧ Dj fp1 fp3 ∧ Chg [] w0 w' ∧ w0.heap.size ≤ w'.heap.size) hr1 (fun hst => ⟨([] : List (Int × Int)), (some ⟨b1, 0, none⟩), 0, [b1], 0, rfl, Fr.of hst (by kernel_rfl), F2, F1, G1, (D1).symm, hB, hZ⟩) ?_
  rintro _ c1 a' w3 ⟨l3, A4, cap4, fp3, x1, rfl, hF1, F3, F4, G3, D2, hB, hZ⟩ hx1
  refine Fr.goOn hF1 (by kernel_rfl) ?_
  have hm := hx1
  unfold m_impl_ReadPoints_s1 at hm
  refine cW_seq ?_
  refine cW_region ?_
  refine wS_pure 1 [(19, .bool (decide (x1 < (((y1).length : Int)))))] (by kernel_rfl) ?_
  refine wS_end (by rfl) ?_
  refine eX_then ?_
  refine cW_seq ?_
  refine cW_cond (t := decide (x1 < (((y1).length : Int)))) (by kernel_rfl) (fun hb1 => ?_) (fun hb1 => ?_)
  ·have hm := condT hb1 hm
   refine cW_skip ?_
   refine eX_then ?_
   refine cW_seq ?_
   refine cW_block ?_
   refine cW_seq ?_
   refine cW_region ?_
   obtain ⟨x2, hx2, hm⟩ := bindE hm
   refine wS_idx (d := 20) (T := 50) (A := A1) (n := (y1).length) (cap := cap1) (kd := .i64) (m := x1) (by kernel_rfl) sl50 ((F3.sl encT_ok).is hx2) ?_
   refine wS_load1 (d := 21) (T := 9) (ad := (elA A1 1 (x1) 0)) (v := .string (x2)) (by kernel_rfl) vt9 (Sl.cell (F3.sl encT_ok) hx2 0 (by rfl)) ?_
   refine wS_pure 1 [(6, .string (x2))] (by kernel_rfl) ?_
   refine wS_end (by rfl) ?_
   refine eX_then ?_
   refine cW_seq ?_
   refine cW_region ?_
   refine wS_pure 1 [(23, .string (x2))] (by kernel_rfl) ?_
   obtain ⟨y2, hy2, hm⟩ := bindE hm
   refine wS_calls (d := 24) (f := 24) (vs := [.string (x2), .string (ByteArray.mk #[46])]) (by kernel_rfl) ent24 (c_strings_Cut hy2) ?_
   rintro _ w4 ⟨rfl, hc3⟩
   replace F3 := F3.chg hc3 Dj.nil
   replace F4 := F4.chg hc3 Dj.nil
   replace hB := hB.inS hc3 inNil
   replace hZ := Nat.le_trans hZ hc3.size
   refine ⟨.tuple #[.string (y2.1), .string (y2.2.1), .bool (y2.2.2)], rfl, ?_⟩
   refine wS_pure 7 [(9, .bool (y2.2.2)), (8, .string (y2.2.1)), (7, .string (y2.1)), (27, .bool (y2.2.2)), (26, .string (y2.2.1)), (25, .string (y2.1)), (22, .tuple #[.string (y2.1), .string (y2.2.1), .bool (y2.2.2)])] (by kernel_rfl) ?_
   refine wS_end (by rfl) ?_
   refine eX_then ?_
   refine cW_seq ?_
   refine cW_region ?_
   refine wS_pure 1 [(29, .string (y2.1))] (by kernel_rfl) ?_
   obtain ⟨y3, hy3, hm⟩ := bindE hm
   refine wS_calls (d := 30) (f := 25) (vs := [.string (y2.1)]) (by kernel_rfl) ent25 (c_impl_ReadDecimal hy3) ?_
   rintro _ w5 ⟨rfl, hc4⟩
   replace F3 := F3.chg hc4 Dj.nil
   replace F4 := F4.chg hc4 Dj.nil
   replace hB := hB.inS hc4 inNil
   replace hZ := Nat.le_trans hZ hc4.size
   refine ⟨.tuple #[.int .i64 (y3.1), .bool (y3.2)], rfl, ?_⟩
   refine wS_pure 5 [(11, .bool (y3.2)), (10, .int .i64 (y3.1)), (32, .bool (y3.2)), (31, .int .i64 (y3.1)), (28, .tuple #[.int .i64 (y3.1), .bool (y3.2)])] (by kernel_rfl) ?_
   refine wS_end (by rfl) ?_
   refine eX_then ?_
   refine cW_prune [(4, .slice A4 (l3).length cap4), (8, .string (y2.2.1)), (9, .bool (y2.2.2)), (10, .int .i64 (y3.1)), (11, .bool (y3.2)), (16, .slice A1 (y1).length cap1), (17, .int .i64 (((y1).length : Int))), (18, .int .i64 (x1))] (by kernel_rfl) (by kernel_rfl) (fun a1 => ?_)
   refine cW_seq ?_
   refine cW_region ?_
   refine wS_pure 1 [(34, .string (y2.2.1))] (by kernel_rfl) ?_
   obtain ⟨y4, hy4, hm⟩ := bindE hm
   refine wS_calls (d := 35) (f := 25) (vs := [.string (y2.2.1)]) (by kernel_rfl) ent25 (c_impl_ReadDecimal hy4) ?_
   rintro _ w6 ⟨rfl, hc5⟩
   replace F3 := F3.chg hc5 Dj.nil
   replace F4 := F4.chg hc5 Dj.nil
   replace hB := hB.inS hc5 inNil
   replace hZ := Nat.le_trans hZ hc5.size
   refine ⟨.tuple #[.int .i64 (y4.1), .bool (y4.2)], rfl, ?_⟩
   refine wS_pure 5 [(13, .bool (y4.2)), (12, .int .i64 (y4.1)), (37, .bool (y4.2)), (36, .int .i64 (y4.1)), (33, .tuple #[.int .i64 (y4.1), .bool (y4.2)])] (by kernel_rfl) ?_
   refine wS_end (by rfl) ?_
   refine eX_then ?_
   refine cW_seq ?_
   refine cW_seq ?_
   refine cW_region ?_
   refine wS_pure 3 [(40, .bool (!y2.2.2)), (39, .bool (!y2.2.2)), (38, .bool (y2.2.2))] (by kernel_rfl) ?_
   refine wS_bool (!y2.2.2) (fun hb2 => ?_) (fun hb2 => ?_)
   ·have hm := condT hb2 hm
    rewrite [hb2]
    refine wS_pure 12 [(52, .bool (true)), (51, undef), (50, undef), (49, undef), (48, .bool (true)), (47, .bool (true)), (46, undef), (45, undef), (44, .bool (true)), (43, .bool (true)), (42, undef), (41, undef)] (by kernel_rfl) ?_
    refine wS_end (by rfl) ?_
    refine eX_then ?_
    refine cW_prune [(4, .slice A4 (l3).length cap4), (10, .int .i64 (y3.1)), (12, .int .i64 (y4.1)), (16, .slice A1 (y1).length cap1), (17, .int .i64 (((y1).length : Int))), (18, .int .i64 (x1)), (52, .bool (true))] (by kernel_rfl) (by kernel_rfl) (fun a2 => ?_)
    refine cW_cond_t (by kernel_rfl) ?_
    refine cW_seq ?_
    refine cW_region ?_
    refine wS_pure 2 [(3, .bool (false)), (2, .slice none 0 0)] (by kernel_rfl) ?_
    refine wS_end (by rfl) ?_
    refine eX_then ?_
    refine cW_ret ?_
    refine eX_then_ret ?_
    refine eX_block_ret ?_
    refine eX_then_ret ?_
    have hq : (some (Ctl.out (Sum.inr (([], false)))) : Option (Ctl ((List (Int × Int)) × Int) (Sum ((List (Int × Int))) ((List (Int × Int)) × (Bool))))) = some _ := hm
    replace hq := someE hq
    subst hq
    refine eX_outR hx1 (fun hr => ?_)
    subst hr
    refine eX_block_ret ?_
    refine eX_then_ret ?_
    refine eX_then_ret ?_
    have hq : (some (([], false)) : Option ((List (Int × Int)) × (Bool))) = some _ := hm1
    replace hq := someE hq
    subst hq
    refine eX_ret (vs := [.slice none 0 0, .bool (false)]) [.tmp 2, .tmp 3] (by rfl) ⟨by (show lkE _ _ _ = _); kernel_rfl, ⟨by (show lkE _ _ _ = _); kernel_rfl, trivial⟩⟩ ?_
    exact ⟨none, 0, [], rfl, Ow.nil _, lowNil, hB⟩
   ·have hm := condF hb2 hm
    rewrite [hb2]
    refine wS_pure 4 [(44, .bool (!y3.2)), (43, .bool (!y3.2)), (42, .bool (!y3.2)), (41, .bool (y3.2))] (by kernel_rfl) ?_
    refine wS_bool (!y3.2) (fun hb3 => ?_) (fun hb3 => ?_)
    ·have hm := condT hb3 hm
     rewrite [hb3]
     refine wS_pure 8 [(52, .bool (true)), (51, undef), (50, undef), (49, undef), (48, .bool (true)), (47, .bool (true)), (46, undef), (45, undef)] (by kernel_rfl) ?_
     refine wS_end (by rfl) ?_
     refine eX_then ?_
     refine cW_prune [(4, .slice A4 (l3).length cap4), (10, .int .i64 (y3.1)), (12, .int .i64 (y4.1)), (16, .slice A1 (y1).length cap1), (17, .int .i64 (((y1).length : Int))), (18, .int .i64 (x1)), (52, .bool (true))] (by kernel_rfl) (by kernel_rfl) (fun a3 => ?_)
     refine cW_cond_t (by kernel_rfl) ?_
     refine cW_seq ?_
     refine cW_region ?_
     refine wS_pure 2 [(3, .bool (false)), (2, .slice none 0 0)] (by kernel_rfl) ?_
     refine wS_end (by rfl) ?_
     refine eX_then ?_
     refine cW_ret ?_
     refine eX_then_ret ?_
     refine eX_block_ret ?_
     refine eX_then_ret ?_
     have hq : (some (Ctl.out (Sum.inr (([], false)))) : Option (Ctl ((List (Int × Int)) × Int) (Sum ((List (Int × Int))) ((List (Int × Int)) × (Bool))))) = some _ := hm
     replace hq := someE hq
     subst hq
     refine eX_outR hx1 (fun hr => ?_)
     subst hr
     refine eX_block_ret ?_
     refine eX_then_ret ?_
     refine eX_then_ret ?_
     have hq : (some (([], false)) : Option ((List (Int × Int)) × (Bool))) = some _ := hm1
     replace hq := someE hq
     subst hq
     refine eX_ret (vs := [.slice none 0 0, .bool (false)]) [.tmp 2, .tmp 3] (by rfl) ⟨by (show lkE _ _ _ = _); kernel_rfl, ⟨by (show lkE _ _ _ = _); kernel_rfl, trivial⟩⟩ ?_
     exact ⟨none, 0, [], rfl, Ow.nil _, lowNil, hB⟩
    ·have hm := condF hb3 hm
     rewrite [hb3]
     refine wS_pure 4 [(48, .bool (!y4.2)), (47, .bool (!y4.2)), (46, .bool (!y4.2)), (45, .bool (y4.2))] (by kernel_rfl) ?_
     refine wS_bool (!y4.2) (fun hb4 => ?_) (fun hb4 => ?_)
     ·have hm := condT hb4 hm
      rewrite [hb4]
      refine wS_pure 4 [(52, .bool (true)), (51, undef), (50, undef), (49, undef)] (by kernel_rfl) ?_
      refine wS_end (by rfl) ?_
      refine eX_then ?_
      refine cW_prune [(4, .slice A4 (l3).length cap4), (10, .int .i64 (y3.1)), (12, .int .i64 (y4.1)), (16, .slice A1 (y1).length cap1), (17, .int .i64 (((y1).length : Int))), (18, .int .i64 (x1)), (52, .bool (true))] (by kernel_rfl) (by kernel_rfl) (fun a4 => ?_)
      refine cW_cond_t (by kernel_rfl) ?_
      refine cW_seq ?_
      refine cW_region ?_
      refine wS_pure 2 [(3, .bool (false)), (2, .slice none 0 0)] (by kernel_rfl) ?_
      refine wS_end (by rfl) ?_
      refine eX_then ?_
      refine cW_ret ?_
      refine eX_then_ret ?_
      refine eX_block_ret ?_
      refine eX_then_ret ?_
      have hq : (some (Ctl.out (Sum.inr (([], false)))) : Option (Ctl ((List (Int × Int)) × Int) (Sum ((List (Int × Int))) ((List (Int × Int)) × (Bool))))) = some _ := hm
      replace hq := someE hq
      subst hq
      refine eX_outR hx1 (fun hr => ?_)
      subst hr
      refine eX_block_ret ?_
      refine eX_then_ret ?_
      refine eX_then_ret ?_
      have hq : (some (([], false)) : Option ((List (Int × Int)) × (Bool))) = some _ := hm1
      replace hq := someE hq
      subst hq
      refine eX_ret (vs := [.slice none 0 0, .bool (false)]) [.tmp 2, .tmp 3] (by rfl) ⟨by (show lkE _ _ _ = _); kernel_rfl, ⟨by (show lkE _ _ _ = _); kernel_rfl, trivial⟩⟩ ?_
      exact ⟨none, 0, [], rfl, Ow.nil _, lowNil, hB⟩
     ·have hm := condF hb4 hm
      rewrite [hb4]
      refine wS_pure 4 [(52, .bool ((((l3).length : Int)) == 24)), (51, .bool ((((l3).length : Int)) == 24)), (50, .int .i64 (((l3).length : Int))), (49, .slice A4 (l3).length cap4)] (by kernel_rfl) ?_
      refine wS_end (by rfl) ?_
      refine eX_then ?_
      refine cW_prune [(4, .slice A4 (l3).length cap4), (10, .int .i64 (y3.1)), (12, .int .i64 (y4.1)), (16, .slice A1 (y1).length cap1), (17, .int .i64 (((y1).length : Int))), (18, .int .i64 (x1)), (52, .bool ((((l3).length : Int)) == 24))] (by kernel_rfl) (by kernel_rfl) (fun a5 => ?_)
      refine cW_cond (t := (((l3).length : Int)) == 24) (by kernel_rfl) (fun hb5 => ?_) (fun hb5 => ?_)
      ·have hm := condT hb5 hm
       refine cW_seq ?_
       refine cW_region ?_
       refine wS_pure 2 [(3, .bool (false)), (2, .slice none 0 0)] (by kernel_rfl) ?_
       refine wS_end (by rfl) ?_
       refine eX_then ?_
       refine cW_ret ?_
       refine eX_then_ret ?_
       refine eX_block_ret ?_
       refine eX_then_ret ?_
       have hq : (some (Ctl.out (Sum.inr (([], false)))) : Option (Ctl ((List (Int × Int)) × Int) (Sum ((List (Int × Int))) ((List (Int × Int)) × (Bool))))) = some _ := hm
       replace hq := someE hq
       subst hq
       refine eX_outR hx1 (fun hr => ?_)
       subst hr
       refine eX_block_ret ?_
       refine eX_then_ret ?_
       refine eX_then_ret ?_
       have hq : (some (([], false)) : Option ((List (Int × Int)) × (Bool))) = some _ := hm1
       replace hq := someE hq
       subst hq
       refine eX_ret (vs := [.slice none 0 0, .bool (false)]) [.tmp 2, .tmp 3] (by rfl) ⟨by (show lkE _ _ _ = _); kernel_rfl, ⟨by (show lkE _ _ _ = _); kernel_rfl, trivial⟩⟩ ?_
       exact ⟨none, 0, [], rfl, Ow.nil _, lowNil, hB⟩
      ·have hm := condF hb5 hm
       refine cW_skip ?_
       refine eX_then ?_
       refine cW_region ?_
       refine wS_pure 4 [(56, .agg #[.int .i64 (y3.1), .int .i64 (y4.1)]), (55, .int .i64 (y4.1)), (54, .int .i64 (y3.1)), (53, .slice A4 (l3).length cap4)] (by kernel_rfl) ?_
       refine wS_bs (enc := encII) ([(y3.1, y4.1)] : List (Int × Int)) [.int .i64 (y3.1), .int .i64 (y4.1)] (d := 57) (t := 24) (T := 27) (n := 1) (ps := [(0, .agg #[.int .i64 (y3.1), .int .i64 (y4.1)])]) (by kernel_rfl) el24 encII_ok (by rfl) (by omega) (by omega) (by kernel_rfl) (by rfl) ?_
       intro b2 w7 G4 F5 hc6
       have D3 : Dj fp1 [b2] := Dj.of F3.low (low1 G4)
       have D4 : Dj fp3 [b2] := Dj.of F4.low (low1 G4)
       replace F3 := F3.chg hc6 Dj.nil
       replace F4 := F4.chg hc6 Dj.nil
       replace hB := hB.inS hc6 inNil
       replace G4 := Nat.le_trans hZ G4
       replace G4 := low1 G4
       replace hZ := Nat.le_trans hZ hc6.size
       obtain ⟨_, hk1, hm⟩ := bindE hm
       replace hk1 := apE hk1
       refine wS_append (enc := encII) (l := (l3 : List (Int × Int))) (l2 := (([(y3.1, y4.1)] : List (Int × Int)) : List (Int × Int))) (d := 58) (t := 24) (T := 27) (A := A4) (A2 := (some ⟨b2, 0, none⟩)) (cap := cap4) (cap2 := 1) (by kernel_rfl) el24 encII_ok F4 (F5.sl encII_ok) (by rfl) hk1 ?_
       intro w8 fp4 A5 cap5 F6 hc7 hp1
       have G5 := low_ap G3 hZ hp1
       have D5 : Dj fp1 fp4 := Dj.ap D2 F3.low hp1
       have D6 : Dj [b2] fp4 := Dj.ap (D4).symm F5.low hp1
       replace F3 := F3.chg hc7 D2
       replace F5 := F5.chg hc7 (D4).symm
       replace hB := hB.inS hc7 (inLow G3)
       replace hZ := Nat.le_trans hZ hc7.size
       refine wS_pure 1 [(4, .slice A5 (l3 ++ (([(y3.1, y4.1)] : List (Int × Int)))).length cap5)] (by kernel_rfl) ?_
       refine wS_end (by rfl) ?_
       refine eX_block ?_
       refine eX_then ?_
       refine cW_region ?_
       refine wS_pure 2 [(18, .int .i64 (wr (x1 + 1))), (59, .int .i64 (wr (x1 + 1)))] (by kernel_rfl) ?_
       refine wS_end (by rfl) ?_
       have hq : (some (Ctl.next ((l3 ++ (([(y3.1, y4.1)] : List (Int × Int))), wr (x1 + 1)))) : Option (Ctl ((List (Int × Int)) × Int) (Sum ((List (Int × Int))) ((List (Int × Int)) × (Bool))))) = some _ := hm
       replace hq := someE hq
       subst hq
       exact eX_next hx1 (fun hst => ⟨l3 ++ (([(y3.1, y4.1)] : List (Int × Int))), A5, cap5, fp4, wr (x1 + 1), rfl, Fr.of hst (by kernel_rfl), F3, F6, G5, D5, hB, hZ⟩)
  ·have hm := condF hb1 hm
   refine cW_exit ?_
   refine eX_then_exit ?_
   have hq : (some (Ctl.out (Sum.inl l3)) : Option (Ctl ((List (Int × Int)) × Int) (Sum ((List (Int × Int))) ((List (Int × Int)) × (Bool))))) = some _ := hm
   replace hq := someE hq
   subst hq
   refine eX_outX hx1 (fun hr2 => ?_)
   replace hr2 := hr2.symm
   subst hr2
   refine eX_block_hit ?_
   exact eX_J (fun hst => ⟨l3, A4, cap4, fp3, rfl, Fr.of hst (by kernel_rfl), F4, G3, hB, hZ⟩)
 ·rintro a' w9 ⟨l1, A3, cap3, fp2, hJ, hF2, F7, G6, hB, hZ⟩
  subst hJ
  refine Fr.goX hF2 (by kernel_rfl) ?_
  refine eX_then ?_
  refine cW_seq ?_
  refine cW_seq ?_
  refine cW_region ?_
  refine wS_pure 1 [(60, .slice A3 (l1).length cap3)] (by kernel_rfl) ?_
  obtain ⟨y5, hy5, hm⟩ := bindE hm
  refine wS_calls (d := 61) (f := 10) (vs := [.slice A3 (l1).length cap3]) (by kernel_rfl) ent10 (c_impl_ArePoints hy5 (F7.sl encII_ok)) ?_
  rintro _ w10 ⟨rfl, hc8⟩
  replace F7 := F7.chg hc8 Dj.nil
  replace hB := hB.inS hc8 inNil
  replace hZ := Nat.le_trans hZ hc8.size
  refine ⟨.bool (y5), rfl, ?_⟩
  refine wS_pure 1 [(62, .bool (!y5))] (by kernel_rfl) ?_
  refine wS_end (by rfl) ?_
  refine eX_then ?_
  refine cW_cond (t := !y5) (by kernel_rfl) (fun hb6 => ?_) (fun hb6 => ?_)
  ·have hm := condT hb6 hm
   refine cW_seq ?_
   refine cW_region ?_
   refine wS_pure 2 [(3, .bool (false)), (2, .slice none 0 0)] (by kernel_rfl) ?_
   refine wS_end (by rfl) ?_
   refine eX_then ?_
   refine cW_ret ?_
   refine eX_then_ret ?_
   have hq : (some (([], false)) : Option ((List (Int × Int)) × (Bool))) = some _ := hm
   replace hq := someE hq
   subst hq
   refine eX_ret (vs := [.slice none 0 0, .bool (false)]) [.tmp 2, .tmp 3] (by rfl) ⟨by (show lkE _ _ _ = _); kernel_rfl, ⟨by (show lkE _ _ _ = _); kernel_rfl, trivial⟩⟩ ?_
   exact ⟨none, 0, [], rfl, Ow.nil _, lowNil, hB⟩
  ·have hm := condF hb6 hm
   refine cW_skip ?_
   refine eX_then ?_
   refine cW_seq ?_
   refine cW_region ?_
   refine wS_pure 3 [(3, .bool (true)), (2, .slice A3 (l1).length cap3), (63, .slice A3 (l1).length cap3)] (by kernel_rfl) ?_
   refine wS_end (by rfl) ?_
   refine eX_then ?_
   refine cW_ret ?_
   have hq : (some ((l1, true)) : Option ((List (Int × Int)) × (Bool))) = some _ := hm
   replace hq := someE hq
   subst hq
   refine eX_ret (vs := [.slice A3 (l1).length cap3, .bool (true)]) [.tmp 2, .tmp 3] (by rfl) ⟨by (show lkE _ _ _ = _); kernel_rfl, ⟨by (show lkE _ _ _ = _); kernel_rfl, trivial⟩⟩ ?_
   exact ⟨A3, cap3, fp2, rfl, F7, G6, hB⟩

set_option maxRecDepth 100000 in
/-- laws.b10Same -/
theorem c_laws_b10Same {w0 : World} {l0 : List (Int × Int)} {A0 : Option Addr} {cap0 : Nat} {fp0 : List Nat} {l1 : List (Int × Int)} {A1 : Option Addr} {cap1 : Nat} {fp1 : List Nat} {r : (Bool)} (hm : m_laws_b10Same l0 l1 = some r) (F0 : Sl 2 encII w0 fp0 A0 l0) (F1 : Sl 2 encII w0 fp1 A1 l1) :
  Calls Tryz.prog 11 #[.slice A0 (l0).length cap0, .slice A1 (l1).length cap1] w0 fun e w' => e = .returned (.bool (r)) ∧ Chg [] w0 w' := by
 have L0 := F0.low
 have L1 := F1.low
 have hB : Chg [] w0 w0 := Chg.refl _ _
 have hZ := Nat.le_refl w0.heap.size
 unfold m_laws_b10Same at hm
 refine enterE (N := 26) Tryz.func11 (by rfl) Tryz.ntmps11 (by simp) [(0, .slice A0 (l0).length cap0), (1, .slice A1 (l1).length cap1)] (by rfl) (by kernel_rfl) (fun a => ?_)
 refine cW_seq ?_
 refine cW_region ?_
 refine wS_pure 1 [(4, .bool (false))] (by kernel_rfl) ?_
 refine wS_end (by rfl) ?_
 refine eX_then ?_
 refine cW_seq ?_
 refine cW_seq ?_
 refine cW_region ?_
 refine wS_pure 5 [(10, .bool ((((l0).length : Int)) != (((l1).length : Int)))), (9, .int .i64 (((l1).length : Int))), (8, .slice A1 (l1).length cap1), (7, .int .i64 (((l0).length : Int))), (6, .slice A0 (l0).length cap0)] (by kernel_rfl) ?_
 refine wS_end (by rfl) ?_
 refine eX_then ?_
 refine cW_cond (t := (((l0).length : Int)) != (((l1).length : Int))) (by kernel_rfl) (fun hb1 => ?_) (fun hb1 => ?_)
 ·have hm := condT hb1 hm
  refine cW_seq ?_
  refine cW_region ?_
  refine wS_pure 1 [(4, .bool (false))] (by kernel_rfl) ?_
  refine wS_end (by rfl) ?_
  refine eX_then ?_
  refine cW_ret ?_
  refine eX_then_ret ?_
  have hq : (some false : Option ((Bool))) = some _ := hm
  replace hq := someE hq
  subst hq
  refine eX_ret (vs := [.bool (false)]) [.tmp 4] (by rfl) ⟨by (show lkE _ _ _ = _); kernel_rfl, trivial⟩ ?_
  exact ⟨rfl, hB⟩
 ·have hm := condF hb1 hm
  refine cW_skip ?_
  refine eX_then ?_
  refine cW_seq ?_
  refine cW_seq ?_
  refine cW_region ?_
  refine wS_pure 1 [(5, .int .i64 (0))] (by kernel_rfl) ?_
  refine wS_end (by rfl) ?_
  refine eX_then ?_
  obtain ⟨r1, hr1, hm⟩ := bindE hm
  have hm1 := hm
  refine cW_cut (fun a' w' => Sum.inl (()) = r1 ∧ Fr 26 [] a' ∧ Chg [] w0 w' ∧ w0.heap.size ≤ w'.heap.size) ?_ ?_
  ·refine cW_block ?_
   refine cW_loop _ (fun (s1 : Int) a' w' => ∃ x1 : Int, x1 = s1 ∧ Fr 26 [(0, .slice A0 (l0).length cap0), (1, .slice A1 (l1).length cap1), (5, .int .i64 (x1))] a' ∧ Sl 2 encII w' fp0 A0 l0 ∧ Sl 2 encII w' fp1 A1 l1 ∧ Chg [] w0 w' ∧ w0.heap.size ≤ w'.heap.size) hr1 (fun hst => ⟨0, rfl, Fr.of hst (by kernel_rfl), F0, F1, hB, hZ⟩) ?_
   rintro _ c1 a' w1 ⟨x1, rfl, hF1, F2, F3, hB, hZ⟩ hx1
   refine Fr.goOn hF1 (by kernel_rfl) ?_
   have hm := hx1
   unfold m_laws_b10Same_s1 at hm
   refine cW_seq ?_
   refine cW_seq ?_
   refine cW_region ?_
   refine wS_pure 4 [(14, .bool (decide (x1 < (((l0).length : Int))))), (13, .int .i64 (((l0).length : Int))), (12, .slice A0 (l0).length cap0), (11, .int .i64 (x1))] (by kernel_rfl) ?_
   refine wS_end (by rfl) ?_
   refine eX_then ?_
   refine cW_cond (t := decide (x1 < (((l0).length : Int)))) (by kernel_rfl) (fun hb2 => ?_) (fun hb2 => ?_)
   ·have hm := condT hb2 hm
    refine cW_skip ?_
    refine eX_then ?_
    refine cW_seq ?_
    refine cW_block ?_
    refine cW_seq ?_
    refine cW_drawnTail [] 8 (by kernel_rfl) (by kernel_rfl) (fun w2 hc1 => ?_)
    replace F2 := F2.chg hc1 Dj.nil
    replace F3 := F3.chg hc1 Dj.nil
    replace hB := hB.inS hc1 inNil
    replace hZ := Nat.le_trans hZ hc1.size
    have hS := Chg.refl [] w2
    have Z1 := F2
    have Z2 := F3
    refine wH_take [0, 1] [1, 0] [(18, .int .i64 (x1)), (17, .slice A0 (l0).length cap0)] (by kernel_rfl) (qT (qT (qB (qT (qL (qB (qT (qT qZ)))))))) (by kernel_rfl) ?_
    obtain ⟨x2, hx2, hm⟩ := bindE hm
    refine wH_idx (i := 2) (d := 19) (T := 24) (A := A0) (n := (l0).length) (cap := cap0) (kd := .i64) (m := x1) (by kernel_rfl) (qT (qT (qB (qT (qL (qB (qT (qT qZ)))))))) (by kernel_rfl) (by kernel_rfl) sl24 (F2.is hx2) ?_
    refine wH_loadA (i := 3) (d := 20) (T := 27) (ad := (elA A0 2 (x1) 0)) (vs := [.int .i64 (x2.1), .int .i64 (x2.2)]) (by kernel_rfl) (qT (qT (qB (qT (qL (qB (qT (qT qZ)))))))) (by kernel_rfl) (by kernel_rfl) vt27 (fun W hW i u hu => Sl.cells_at (Z1.chg hW Dj.nil) hx2 0 hu (by rfl)) ?_
    refine wH_take [4, 5] [5, 4, 3, 2, 1, 0] [(22, .int .i64 (x1)), (21, .slice A1 (l1).length cap1)] (by kernel_rfl) (qT (qT (qB (qT (qL (qB (qT (qT qZ)))))))) (by kernel_rfl) ?_
    obtain ⟨x3, hx3, hm⟩ := bindE hm
    refine wH_idx (i := 6) (d := 23) (T := 24) (A := A1) (n := (l1).length) (cap := cap1) (kd := .i64) (m := x1) (by kernel_rfl) (qT (qT (qB (qT (qL (qB (qT (qT qZ)))))))) (by kernel_rfl) (by kernel_rfl) sl24 (F3.is hx3) ?_
    refine wH_loadA (i := 7) (d := 24) (T := 27) (ad := (elA A1 2 (x1) 0)) (vs := [.int .i64 (x3.1), .int .i64 (x3.2)]) (by kernel_rfl) (qT (qT (qB (qT (qL (qB (qT (qT qZ)))))))) (by kernel_rfl) (by kernel_rfl) vt27 (fun W hW i u hu => Sl.cells_at (Z2.chg hW Dj.nil) hx3 0 hu (by rfl)) ?_
    refine wH_done (by kernel_rfl) ?_
    refine eX_tail ?_
    refine wS_neS (d := 25) (T := 27) (x := x2.1) (y := x2.2) (x' := x3.1) (y' := x3.2) (by kernel_rfl) eq27 ?_
    refine wS_end (by rfl) ?_
    refine eX_then ?_
    refine cW_cond (t := !(x2.1 == x3.1 && x2.2 == x3.2)) (by kernel_rfl) (fun hb3 => ?_) (fun hb3 => ?_)
    ·have hm := condT hb3 hm
     refine cW_seq ?_
     refine cW_region ?_
     refine wS_pure 1 [(4, .bool (false))] (by kernel_rfl) ?_
     refine wS_end (by rfl) ?_
     refine eX_then ?_
     refine cW_ret ?_
     refine eX_block_ret ?_
     refine eX_then_ret ?_
     have hq : (some (Ctl.out (Sum.inr false)) : Option (Ctl (Int) (Sum (Unit) ((Bool))))) = some _ := hm
     replace hq := someE hq
     subst hq
     refine eX_outR hx1 (fun hr => ?_)
     subst hr
     refine eX_block_ret ?_
     refine eX_then_ret ?_
     refine eX_then_ret ?_
     have hq : (some false : Option ((Bool))) = some _ := hm1
     replace hq := someE hq
     subst hq
     refine eX_ret (vs := [.bool (false)]) [.tmp 4] (by rfl) ⟨by (show lkE _ _ _ = _); kernel_rfl, trivial⟩ ?_
     exact ⟨rfl, hB⟩
    ·have hm := condF hb3 hm
     refine cW_skip ?_
     refine eX_block ?_
     refine eX_then ?_
     refine cW_region ?_
     refine wS_pure 3 [(5, .int .i64 (wr (x1 + 1))), (16, .int .i64 (wr (x1 + 1))), (15, .int .i64 (x1))] (by kernel_rfl) ?_
     refine wS_end (by rfl) ?_
     have hq : (some (Ctl.next (wr (x1 + 1))) : Option (Ctl (Int) (Sum (Unit) ((Bool))))) = some _ := hm
     replace hq := someE hq
     subst hq
     exact eX_next hx1 (fun hst => ⟨wr (x1 + 1), rfl, Fr.of hst (by kernel_rfl), F2, F3, hB, hZ⟩)
   ·have hm := condF hb2 hm
    refine cW_exit ?_
    refine eX_then_exit ?_
    have hq : (some (Ctl.out (Sum.inl (()))) : Option (Ctl (Int) (Sum (Unit) ((Bool))))) = some _ := hm
    replace hq := someE hq
    subst hq
    refine eX_outX hx1 (fun hr2 => ?_)
    replace hr2 := hr2.symm
    subst hr2
    refine eX_block_hit ?_
    exact eX_J (fun hst => ⟨rfl, Fr.of hst (by kernel_rfl), hB, hZ⟩)
  ·rintro a' w3 ⟨hJ, hF2, hB, hZ⟩
   subst hJ
   refine Fr.goX hF2 (by kernel_rfl) ?_
   refine eX_then ?_
   refine cW_seq ?_
   refine cW_region ?_
   refine wS_pure 1 [(4, .bool (true))] (by kernel_rfl) ?_
   refine wS_end (by rfl) ?_
   refine eX_then ?_
   refine cW_ret ?_
   have hq : (some true : Option ((Bool))) = some _ := hm
   replace hq := someE hq
   subst hq
   refine eX_ret (vs := [.bool (true)]) [.tmp 4] (by rfl) ⟨by (show lkE _ _ _ = _); kernel_rfl, trivial⟩ ?_
   exact ⟨rfl, hB⟩

set_option maxRecDepth 100000 in
/-- laws.b10In -/
theorem c_laws_b10In {w0 : World} {l0 : List (Int × Int)} {A0 : Option Addr} {cap0 : Nat} {fp0 : List Nat} {p1_0 : Int} {p1_1 : Int} {r : (Bool)} (hm : m_laws_b10In l0 p1_0 p1_1 = some r) (F0 : Sl 2 encII w0 fp0 A0 l0) :
  Calls Tryz.prog 12 #[.slice A0 (l0).length cap0, .agg #[.int .i64 (p1_0), .int .i64 (p1_1)]] w0 fun e w' => e = .returned (.bool (r)) ∧ Chg [] w0 w' := by
 have L0 := F0.low
 have hB : Chg [] w0 w0 := Chg.refl _ _
 have hZ := Nat.le_refl w0.heap.size
 unfold m_laws_b10In at hm
 refine enterE (N := 18) Tryz.func12 (by rfl) Tryz.ntmps12 (by simp) [(0, .slice A0 (l0).length cap0), (1, .agg #[.int .i64 (p1_0), .int .i64 (p1_1)])] (by rfl) (by kernel_rfl) (fun a => ?_)
 refine cW_seq ?_
 refine cW_region ?_
 refine wS_box (d := 3) (T := 27) (x := .agg #[.int .i64 (p1_0), .int .i64 (p1_1)]) (by kernel_rfl) ?_
 intro b1 w1 G1 F1 hc1
 replace F1 : Cl w1 b1 27 [.int .i64 (p1_0), .int .i64 (p1_1)] := F1
 replace F0 := F0.chg hc1 Dj.nil
 replace hB := hB.inS hc1 inNil
 replace G1 := Nat.le_trans hZ G1
 replace hZ := Nat.le_trans hZ hc1.size
 refine wS_pure 1 [(4, .bool (false))] (by kernel_rfl) ?_
 refine wS_end (by rfl) ?_
 refine eX_then ?_
 refine cW_seq ?_
 refine cW_seq ?_
 refine cW_region ?_
 refine wS_pure 1 [(5, .int .i64 (0))] (by kernel_rfl) ?_
 refine wS_end (by rfl) ?_
 refine eX_then ?_
 obtain ⟨r1, hr1, hm⟩ := bindE hm
 have hm1 := hm
 refine cW_cut (fun a' w' => Sum.inl (()) = r1 ∧ Fr 18 [] a' ∧ Chg [] w0 w' ∧ w0.heap.size ≤ w'.heap.size) ?_ ?_
 ·refine cW_block ?_
  refine cW_loop _ (fun (s1 : Int) a' w' => ∃ x1 : Int, x1 = s1 ∧ Fr 18 [(0, .slice A0 (l0).length cap0), (3, .pointer (some ⟨b1, 0, none⟩)), (5, .int .i64 (x1))] a' ∧ Sl 2 encII w' fp0 A0 l0 ∧ Cl w' b1 27 [.int .i64 (p1_0), .int .i64 (p1_1)] ∧ Chg [] w0 w' ∧ w0.heap.size ≤ w'.heap.size) hr1 (fun hst => ⟨0, rfl, Fr.of hst (by kernel_rfl), F0, F1, hB, hZ⟩) ?_
  rintro _ c1 a' w2 ⟨x1, rfl, hF1, F2, F3, hB, hZ⟩ hx1
  refine Fr.goOn hF1 (by kernel_rfl) ?_
  have hm := hx1
  unfold m_laws_b10In_s1 at hm
  refine cW_seq ?_
  refine cW_seq ?_
  refine cW_region ?_
  refine wS_pure 4 [(9, .bool (decide (x1 < (((l0).length : Int))))), (8, .int .i64 (((l0).length : Int))), (7, .slice A0 (l0).length cap0), (6, .int .i64 (x1))] (by kernel_rfl) ?_
  refine wS_end (by rfl) ?_
  refine eX_then ?_
  refine cW_cond (t := decide (x1 < (((l0).length : Int)))) (by kernel_rfl) (fun hb1 => ?_) (fun hb1 => ?_)
  ·have hm := condT hb1 hm
   refine cW_skip ?_
   refine eX_then ?_
   refine cW_seq ?_
   refine cW_block ?_
   refine cW_seq ?_
   refine cW_drawnTail [] 5 (by kernel_rfl) (by kernel_rfl) (fun w3 hc2 => ?_)
   replace F2 := F2.chg hc2 Dj.nil
   replace F3 := F3.chg hc2 notNil
   replace hB := hB.inS hc2 inNil
   replace hZ := Nat.le_trans hZ hc2.size
   have hS := Chg.refl [] w3
   have Z1 := F2
   have Z2 := F3
   refine wH_take [0, 1] [1, 0] [(13, .int .i64 (x1)), (12, .slice A0 (l0).length cap0)] (by kernel_rfl) (qT (qT (qB (qT (qL (qB (qT (qT qZ)))))))) (by kernel_rfl) ?_
   obtain ⟨x2, hx2, hm⟩ := bindE hm
   refine wH_idx (i := 2) (d := 14) (T := 24) (A := A0) (n := (l0).length) (cap := cap0) (kd := .i64) (m := x1) (by kernel_rfl) (qT (qT (qB (qT (qL (qB (qT (qT qZ)))))))) (by kernel_rfl) (by kernel_rfl) sl24 (F2.is hx2) ?_
   refine wH_loadA (i := 3) (d := 15) (T := 27) (ad := (elA A0 2 (x1) 0)) (vs := [.int .i64 (x2.1), .int .i64 (x2.2)]) (by kernel_rfl) (qT (qT (qB (qT (qL (qB (qT (qT qZ)))))))) (by kernel_rfl) (by kernel_rfl) vt27 (fun W hW i u hu => Sl.cells_at (Z1.chg hW Dj.nil) hx2 0 hu (by rfl)) ?_
   refine wH_loadA (i := 4) (d := 16) (T := 27) (ad := ⟨b1, 0, none⟩) (vs := [.int .i64 (p1_0), .int .i64 (p1_1)]) (by kernel_rfl) (qT (qT (qB (qT (qL (qB (qT (qT qZ)))))))) (by kernel_rfl) (by kernel_rfl) vt27 (fun W hW i u hu => box_cells (Z2.chg hW notNil) 0 hu (by rfl)) ?_
   refine wH_done (by kernel_rfl) ?_
   refine eX_tail ?_
   refine wS_eqS (d := 17) (T := 27) (x := x2.1) (y := x2.2) (x' := p1_0) (y' := p1_1) (by kernel_rfl) eq27 ?_
   refine wS_end (by rfl) ?_
   refine eX_then ?_
   refine cW_cond (t := x2.1 == p1_0 && x2.2 == p1_1) (by kernel_rfl) (fun hb2 => ?_) (fun hb2 => ?_)
   ·have hm := condT hb2 hm
    refine cW_seq ?_
    refine cW_region ?_
    refine wS_pure 1 [(4, .bool (true))] (by kernel_rfl) ?_
    refine wS_end (by rfl) ?_
    refine eX_then ?_
    refine cW_ret ?_
    refine eX_block_ret ?_
    refine eX_then_ret ?_
    have hq : (some (Ctl.out (Sum.inr true)) : Option (Ctl (Int) (Sum (Unit) ((Bool))))) = some _ := hm
    replace hq := someE hq
    subst hq
    refine eX_outR hx1 (fun hr => ?_)
    subst hr
    refine eX_block_ret ?_
    refine eX_then_ret ?_
    refine eX_then_ret ?_
    have hq : (some true : Option ((Bool))) = some _ := hm1
    replace hq := someE hq
    subst hq
    refine eX_ret (vs := [.bool (true)]) [.tmp 4] (by rfl) ⟨by (show lkE _ _ _ = _); kernel_rfl, trivial⟩ ?_
    exact ⟨rfl, hB⟩
   ·have hm := condF hb2 hm
    refine cW_skip ?_
    refine eX_block ?_
    refine eX_then ?_
    refine cW_region ?_
    refine wS_pure 3 [(5, .int .i64 (wr (x1 + 1))), (11, .int .i64 (wr (x1 + 1))), (10, .int .i64 (x1))] (by kernel_rfl) ?_
    refine wS_end (by rfl) ?_
    have hq : (some (Ctl.next (wr (x1 + 1))) : Option (Ctl (Int) (Sum (Unit) ((Bool))))) = some _ := hm
    replace hq := someE hq
    subst hq
    exact eX_next hx1 (fun hst => ⟨wr (x1 + 1), rfl, Fr.of hst (by kernel_rfl), F2, F3, hB, hZ⟩)
  ·have hm := condF hb1 hm
   refine cW_exit ?_
   refine eX_then_exit ?_
   have hq : (some (Ctl.out (Sum.inl (()))) : Option (Ctl (Int) (Sum (Unit) ((Bool))))) = some _ := hm
   replace hq := someE hq
   subst hq
   refine eX_outX hx1 (fun hr2 => ?_)
   replace hr2 := hr2.symm
   subst hr2
   refine eX_block_hit ?_
   exact eX_J (fun hst => ⟨rfl, Fr.of hst (by kernel_rfl), hB, hZ⟩)
 ·rintro a' w4 ⟨hJ, hF2, hB, hZ⟩
  subst hJ
  refine Fr.goX hF2 (by kernel_rfl) ?_
  refine eX_then ?_
  refine cW_seq ?_
  refine cW_region ?_
  refine wS_pure 1 [(4, .bool (false))] (by kernel_rfl) ?_
  refine wS_end (by rfl) ?_
  refine eX_then ?_
  refine cW_ret ?_
  have hq : (some false : Option ((Bool))) = some _ := hm
  replace hq := someE hq
  subst hq
  refine eX_ret (vs := [.bool (false)]) [.tmp 4] (by rfl) ⟨by (show lkE _ _ _ = _); kernel_rfl, trivial⟩ ?_
  exact ⟨rfl, hB⟩

set_option maxRecDepth 100000 in
/-- impl.box -/
theorem c_impl_box {w0 : World} {l0 : List (Int × Int)} {A0 : Option Addr} {cap0 : Nat} {fp0 : List Nat} {r : (Int × Int) × (Int × Int)} (hm : m_impl_box l0 = some r) (F0 : Sl 2 encII w0 fp0 A0 l0) :
  Calls Tryz.prog 28 #[.slice A0 (l0).length cap0] w0 fun e w' => e = .returned (.tuple #[.agg #[.int .i64 (r.1.1), .int .i64 (r.1.2)], .agg #[.int .i64 (r.2.1), .int .i64 (r.2.2)]]) ∧ Chg [] w0 w' := by
 have L0 := F0.low
 have hB : Chg [] w0 w0 := Chg.refl _ _
 have hZ := Nat.le_refl w0.heap.size
 unfold m_impl_box at hm
 refine enterE (N := 45) Tryz.func28 (by rfl) Tryz.ntmps28 (by simp) [(0, .slice A0 (l0).length cap0)] (by rfl) (by kernel_rfl) (fun a => ?_)
 refine cW_seq ?_
 refine cW_region ?_
 refine wS_alloc (d := 2) (T := 27) (z := .agg #[.int .i64 (0), .int .i64 (0)]) (by kernel_rfl) (by kernel_rfl) ?_
 intro b1 w1 G1 F1 hc1
 replace F1 : Cl w1 b1 27 [.int .i64 (0), .int .i64 (0)] := F1
 replace F0 := F0.chg hc1 Dj.nil
 replace hB := hB.inS hc1 inNil
 replace G1 := Nat.le_trans hZ G1
 replace hZ := Nat.le_trans hZ hc1.size
 refine wS_alloc (d := 3) (T := 27) (z := .agg #[.int .i64 (0), .int .i64 (0)]) (by kernel_rfl) (by kernel_rfl) ?_
 intro b2 w2 G2 F2 hc2
 replace F2 : Cl w2 b2 27 [.int .i64 (0), .int .i64 (0)] := F2
 have D1 : Dj [b1] [b2] := Dj.of (lt1 F1.lt) (low1 G2)
 replace F0 := F0.chg hc2 Dj.nil
 replace F1 := F1.chg hc2 notNil
 replace hB := hB.inS hc2 inNil
 replace G2 := Nat.le_trans hZ G2
 replace hZ := Nat.le_trans hZ hc2.size
 refine wS_end (by rfl) ?_
 refine eX_then ?_
 refine cW_seq ?_
 obtain ⟨s1, hs1, hm⟩ := bindE hm
 refine cW_cut (fun a' w' => ∃ b3 : Nat, ∃ x1 : Int, ∃ x2 : Int, ∃ b4 : Nat, ∃ x3 : Int, ∃ x4 : Int, (x1, x2, x3, x4) = s1 ∧ Fr 45 [(0, .slice A0 (l0).length cap0), (2, .pointer (some ⟨b1, 0, none⟩)), (3, .pointer (some ⟨b2, 0, none⟩)), (4, .pointer (some ⟨b3, 0, none⟩)), (5, .pointer (some ⟨b4, 0, none⟩))] a' ∧ Sl 2 encII w' fp0 A0 l0 ∧ Cl w' b1 27 [.int .i64 (0), .int .i64 (0)] ∧ Cl w' b2 27 [.int .i64 (0), .int .i64 (0)] ∧ Cl w' b3 27 [.int .i64 (x1), .int .i64 (x2)] ∧ Cl w' b4 27 [.int .i64 (x3), .int .i64 (x4)] ∧ w0.heap.size ≤ b3 ∧ w0.heap.size ≤ b4 ∧ Dj [b1] [b3] ∧ Dj [b2] [b3] ∧ Dj [b4] [b3] ∧ Dj [b1] [b4] ∧ Dj [b2] [b4] ∧ Chg [] w0 w' ∧ w0.heap.size ≤ w'.heap.size) ?_ ?_
 ·have hm := hs1
  refine cW_drawnTail [] 9 (by kernel_rfl) (by kernel_rfl) (fun w3 hc3 => ?_)
  replace F0 := F0.chg hc3 Dj.nil
  replace F1 := F1.chg hc3 notNil
  replace F2 := F2.chg hc3 notNil
  replace hB := hB.inS hc3 inNil
  replace hZ := Nat.le_trans hZ hc3.size
  have hS := Chg.refl [] w3
  have Z1 := F0
  have Z2 := F1
  have Z3 := F2
  refine wH_take [0] [0] [(8, .slice A0 (l0).length cap0)] (by kernel_rfl) (qT (qT (qT qZ))) (by kernel_rfl) ?_
  obtain ⟨x5, hx1, hm⟩ := bindE hm
  refine wH_idx (i := 1) (d := 9) (T := 24) (A := A0) (n := (l0).length) (cap := cap0) (kd := .i64) (m := 0) (by kernel_rfl) (qT (qT (qT qZ))) (by kernel_rfl) (by kernel_rfl) sl24 (F0.is hx1) ?_
  refine wH_loadA (i := 2) (d := 10) (T := 27) (ad := (elA A0 2 (0) 0)) (vs := [.int .i64 (x5.1), .int .i64 (x5.2)]) (by kernel_rfl) (qT (qT (qT qZ))) (by kernel_rfl) (by kernel_rfl) vt27 (fun W hW i u hu => Sl.cells_at (Z1.chg hW Dj.nil) hx1 0 hu (by rfl)) ?_
  refine wH_take [3] [3, 2, 1, 0] [(11, .slice A0 (l0).length cap0)] (by kernel_rfl) (qT (qT (qT qZ))) (by kernel_rfl) ?_
  obtain ⟨x6, hx2, hm⟩ := bindE hm
  refine wH_idx (i := 4) (d := 12) (T := 24) (A := A0) (n := (l0).length) (cap := cap0) (kd := .i64) (m := 0) (by kernel_rfl) (qT (qT (qT qZ))) (by kernel_rfl) (by kernel_rfl) sl24 (F0.is hx2) ?_
  refine wH_loadA (i := 5) (d := 13) (T := 27) (ad := (elA A0 2 (0) 0)) (vs := [.int .i64 (x6.1), .int .i64 (x6.2)]) (by kernel_rfl) (qT (qT (qT qZ))) (by kernel_rfl) (by kernel_rfl) vt27 (fun W hW i u hu => Sl.cells_at (Z1.chg hW Dj.nil) hx2 0 hu (by rfl)) ?_
  refine wH_all [6, 7] (by rfl) (by kernel_rfl) (by simp) ⟨⟨by kernel_rfl, ?_⟩, ⟨by kernel_rfl, ?_⟩, trivial⟩
  ·skip
   refine wS_alloc (d := 4) (T := 27) (z := .agg #[.int .i64 (0), .int .i64 (0)]) (by kernel_rfl) (by kernel_rfl) ?_
   intro b5 w4 G3 F3 hc4
   replace F3 : Cl w4 b5 27 [.int .i64 (0), .int .i64 (0)] := F3
   have D2 : Dj [b1] [b5] := Dj.of (lt1 F1.lt) (low1 G3)
   have D3 : Dj [b2] [b5] := Dj.of (lt1 F2.lt) (low1 G3)
   replace F0 := F0.chg hc4 Dj.nil
   replace F1 := F1.chg hc4 notNil
   replace F2 := F2.chg hc4 notNil
   replace hB := hB.inS hc4 inNil
   have hSz := hS
   replace hS := hS.inS hc4 inNil
   have Gz1 := low1 (Nat.le_trans hSz.size G3)
   replace G3 := Nat.le_trans hZ G3
   replace hZ := Nat.le_trans hZ hc4.size
   refine wS_end (by kernel_rfl) ?_
   refine eX_KH hS ?_
   refine wH_all [7] (by rfl) (by kernel_rfl) (by simp) ⟨⟨by kernel_rfl, ?_⟩, trivial⟩
   refine wS_alloc (d := 5) (T := 27) (z := .agg #[.int .i64 (0), .int .i64 (0)]) (by kernel_rfl) (by kernel_rfl) ?_
   intro b6 w5 G4 F4 hc5
   replace F4 : Cl w5 b6 27 [.int .i64 (0), .int .i64 (0)] := F4
   have D4 : Dj [b1] [b6] := Dj.of (lt1 F1.lt) (low1 G4)
   have D5 : Dj [b2] [b6] := Dj.of (lt1 F2.lt) (low1 G4)
   have D6 : Dj [b5] [b6] := Dj.of (lt1 F3.lt) (low1 G4)
   replace F0 := F0.chg hc5 Dj.nil
   replace F1 := F1.chg hc5 notNil
   replace F2 := F2.chg hc5 notNil
   replace F3 := F3.chg hc5 notNil
   replace hB := hB.inS hc5 inNil
   have hSz := hS
   replace hS := hS.inS hc5 inNil
   have Gz2 := low1 (Nat.le_trans hSz.size G4)
   replace G4 := Nat.le_trans hZ G4
   replace hZ := Nat.le_trans hZ hc5.size
   refine wS_end (by kernel_rfl) ?_
   refine eX_KH hS ?_
   refine wH_all [8] (by rfl) (by kernel_rfl) (by simp) ⟨⟨by kernel_rfl, ?_⟩, trivial⟩
   refine wS_store (T := 27) (g := b5) (o := 0) (ad := ⟨b5, 0, none⟩) (v := .agg #[.int .i64 (x5.1), .int .i64 (x5.2)]) (vs := [.int .i64 (x5.1), .int .i64 (x5.2)]) (by kernel_rfl) (by rfl) sz27 (by rfl) (by rfl) F3 (by simp only [List.length_cons, List.length_nil]; omega) ?_
   intro w6 F5 hc6
   replace F0 := F0.chg hc6 (Dj.of L0 (low1 G3))
   replace F1 := F1.chg hc6 (dj1 D2)
   replace F2 := F2.chg hc6 (dj1 D3)
   replace F4 := F4.chg hc6 (dj1 (D6).symm)
   replace hB := hB.inS hc6 (inLow (low1 G3))
   have hSz := hS
   replace hS := hS.inS hc6 (inLow Gz1)
   replace hZ := Nat.le_trans hZ hc6.size
   replace F5 : Cl w6 b5 27 [.int .i64 (x5.1), .int .i64 (x5.2)] := F5
   clear F3
   refine wS_end (by kernel_rfl) ?_
   refine eX_KH hS ?_
   refine wH_done (by kernel_rfl) ?_
   refine eX_tail ?_
   refine wS_store (T := 27) (g := b6) (o := 0) (ad := ⟨b6, 0, none⟩) (v := .agg #[.int .i64 (x6.1), .int .i64 (x6.2)]) (vs := [.int .i64 (x6.1), .int .i64 (x6.2)]) (by kernel_rfl) (by rfl) sz27 (by rfl) (by rfl) F4 (by simp only [List.length_cons, List.length_nil]; omega) ?_
   intro w7 F6 hc7
   replace F0 := F0.chg hc7 (Dj.of L0 (low1 G4))
   replace F1 := F1.chg hc7 (dj1 D4)
   replace F2 := F2.chg hc7 (dj1 D5)
   replace F5 := F5.chg hc7 (dj1 D6)
   replace hB := hB.inS hc7 (inLow (low1 G4))
   replace hZ := Nat.le_trans hZ hc7.size
   replace F6 : Cl w7 b6 27 [.int .i64 (x6.1), .int .i64 (x6.2)] := F6
   clear F4
   refine wS_end (by rfl) ?_
   have hq : (some ((x5.1, x5.2, x6.1, x6.2)) : Option (Int × Int × Int × Int)) = some _ := hm
   replace hq := someE hq
   subst hq
   exact eX_J (fun hst => ⟨b5, x5.1, x5.2, b6, x6.1, x6.2, rfl, Fr.of hst (by kernel_rfl), F0, F1, F2, F5, F6, G3, G4, D2, D3, (D6).symm, D4, D5, hB, hZ⟩)
  ·skip
   refine wS_alloc (d := 5) (T := 27) (z := .agg #[.int .i64 (0), .int .i64 (0)]) (by kernel_rfl) (by kernel_rfl) ?_
   intro b7 w8 G5 F7 hc8
   replace F7 : Cl w8 b7 27 [.int .i64 (0), .int .i64 (0)] := F7
   have D7 : Dj [b1] [b7] := Dj.of (lt1 F1.lt) (low1 G5)
   have D8 : Dj [b2] [b7] := Dj.of (lt1 F2.lt) (low1 G5)
   replace F0 := F0.chg hc8 Dj.nil
   replace F1 := F1.chg hc8 notNil
   replace F2 := F2.chg hc8 notNil
   replace hB := hB.inS hc8 inNil
   have hSz := hS
   replace hS := hS.inS hc8 inNil
   have Gz3 := low1 (Nat.le_trans hSz.size G5)
   replace G5 := Nat.le_trans hZ G5
   replace hZ := Nat.le_trans hZ hc8.size
   refine wS_end (by kernel_rfl) ?_
   refine eX_KH hS ?_
   refine wH_all [6] (by rfl) (by kernel_rfl) (by simp) ⟨⟨by kernel_rfl, ?_⟩, trivial⟩
   refine wS_alloc (d := 4) (T := 27) (z := .agg #[.int .i64 (0), .int .i64 (0)]) (by kernel_rfl) (by kernel_rfl) ?_
   intro b8 w9 G6 F8 hc9
   replace F8 : Cl w9 b8 27 [.int .i64 (0), .int .i64 (0)] := F8
   have D9 : Dj [b1] [b8] := Dj.of (lt1 F1.lt) (low1 G6)
   have D10 : Dj [b2] [b8] := Dj.of (lt1 F2.lt) (low1 G6)
   have D11 : Dj [b7] [b8] := Dj.of (lt1 F7.lt) (low1 G6)
   replace F0 := F0.chg hc9 Dj.nil
   replace F1 := F1.chg hc9 notNil
   replace F2 := F2.chg hc9 notNil
   replace F7 := F7.chg hc9 notNil
   replace hB := hB.inS hc9 inNil
   have hSz := hS
   replace hS := hS.inS hc9 inNil
   have Gz4 := low1 (Nat.le_trans hSz.size G6)
   replace G6 := Nat.le_trans hZ G6
   replace hZ := Nat.le_trans hZ hc9.size
   refine wS_end (by kernel_rfl) ?_
   refine eX_KH hS ?_
   refine wH_all [8] (by rfl) (by kernel_rfl) (by simp) ⟨⟨by kernel_rfl, ?_⟩, trivial⟩
   refine wS_store (T := 27) (g := b8) (o := 0) (ad := ⟨b8, 0, none⟩) (v := .agg #[.int .i64 (x5.1), .int .i64 (x5.2)]) (vs := [.int .i64 (x5.1), .int .i64 (x5.2)]) (by kernel_rfl) (by rfl) sz27 (by rfl) (by rfl) F8 (by simp only [List.length_cons, List.length_nil]; omega) ?_
   intro w10 F9 hc10
   replace F0 := F0.chg hc10 (Dj.of L0 (low1 G6))
   replace F1 := F1.chg hc10 (dj1 D9)
   replace F2 := F2.chg hc10 (dj1 D10)
   replace F7 := F7.chg hc10 (dj1 D11)
   replace hB := hB.inS hc10 (inLow (low1 G6))
   have hSz := hS
   replace hS := hS.inS hc10 (inLow Gz4)
   replace hZ := Nat.le_trans hZ hc10.size
   replace F9 : Cl w10 b8 27 [.int .i64 (x5.1), .int .i64 (x5.2)] := F9
   clear F8
   refine wS_end (by kernel_rfl) ?_
   refine eX_KH hS ?_
   refine wH_done (by kernel_rfl) ?_
   refine eX_tail ?_
   refine wS_store (T := 27) (g := b7) (o := 0) (ad := ⟨b7, 0, none⟩) (v := .agg #[.int .i64 (x6.1), .int .i64 (x6.2)]) (vs := [.int .i64 (x6.1), .int .i64 (x6.2)]) (by kernel_rfl) (by rfl) sz27 (by rfl) (by rfl) F7 (by simp only [List.length_cons, List.length_nil]; omega) ?_
   intro w11 F10 hc11
   replace F0 := F0.chg hc11 (Dj.of L0 (low1 G5))
   replace F1 := F1.chg hc11 (dj1 D7)
   replace F2 := F2.chg hc11 (dj1 D8)
   replace F9 := F9.chg hc11 (dj1 (D11).symm)
   replace hB := hB.inS hc11 (inLow (low1 G5))
   replace hZ := Nat.le_trans hZ hc11.size
   replace F10 : Cl w11 b7 27 [.int .i64 (x6.1), .int .i64 (x6.2)] := F10
   clear F7
   refine wS_end (by rfl) ?_
   have hq : (some ((x5.1, x5.2, x6.1, x6.2)) : Option (Int × Int × Int × Int)) = some _ := hm
   replace hq := someE hq
   subst hq
   exact eX_J (fun hst => ⟨b8, x5.1, x5.2, b7, x6.1, x6.2, rfl, Fr.of hst (by kernel_rfl), F0, F1, F2, F9, F10, G6, G5, D9, D10, D11, D7, D8, hB, hZ⟩)
 ·rintro a' w12 ⟨b3, x1, x2, b4, x3, x4, hJ, hF1, F11, F12, F13, F14, F15, G7, G8, D12, D13, D14, D15, D16, hB, hZ⟩
  subst hJ
  refine Fr.goX hF1 (by kernel_rfl) ?_
  refine eX_then ?_
  refine cW_seq ?_
  refine cW_seq ?_
  refine cW_region ?_
  refine wS_pure 3 [(16, .int .i64 (0)), (15, .int .i64 (((l0).length : Int))), (14, .slice A0 (l0).length cap0)] (by kernel_rfl) ?_
  refine wS_end (by rfl) ?_
  refine eX_then ?_
  obtain ⟨r1, hr1, hm⟩ := bindE hm
  have hm1 := hm
  refine cW_cut (fun a' w' => ∃ x7 : Int, ∃ x8 : Int, ∃ x9 : Int, ∃ x10 : Int, (x7, x8, x9, x10) = r1 ∧ Fr 45 [(2, .pointer (some ⟨b1, 0, none⟩)), (3, .pointer (some ⟨b2, 0, none⟩)), (4, .pointer (some ⟨b3, 0, none⟩)), (5, .pointer (some ⟨b4, 0, none⟩))] a' ∧ Cl w' b1 27 [.int .i64 (0), .int .i64 (0)] ∧ Cl w' b2 27 [.int .i64 (0), .int .i64 (0)] ∧ Cl w' b3 27 [.int .i64 (x7), .int .i64 (x8)] ∧ Cl w' b4 27 [.int .i64 (x9), .int .i64 (x10)] ∧ Chg [] w0 w' ∧ w0.heap.size ≤ w'.heap.size) ?_ ?_
  ·refine cW_block ?_
   refine cW_loop _ (fun (s2 : Int × Int × Int × Int × Int) a' w' => ∃ x11 : Int, ∃ x12 : Int, ∃ x13 : Int, ∃ x14 : Int, ∃ x15 : Int, (x11, x12, x13, x14, x15) = s2 ∧ Fr 45 [(2, .pointer (some ⟨b1, 0, none⟩)), (3, .pointer (some ⟨b2, 0, none⟩)), (4, .pointer (some ⟨b3, 0, none⟩)), (5, .pointer (some ⟨b4, 0, none⟩)), (14, .slice A0 (l0).length cap0), (15, .int .i64 (((l0).length : Int))), (16, .int .i64 (x11))] a' ∧ Sl 2 encII w' fp0 A0 l0 ∧ Cl w' b1 27 [.int .i64 (0), .int .i64 (0)] ∧ Cl w' b2 27 [.int .i64 (0), .int .i64 (0)] ∧ Cl w' b3 27 [.int .i64 (x12), .int .i64 (x13)] ∧ Cl w' b4 27 [.int .i64 (x14), .int .i64 (x15)] ∧ Chg [] w0 w' ∧ w0.heap.size ≤ w'.heap.size) hr1 (fun hst => ⟨0, x1, x2, x3, x4, rfl, Fr.of hst (by kernel_rfl), F11, F12, F13, F14, F15, hB, hZ⟩) ?_
   rintro _ c1 a' w13 ⟨x11, x12, x13, x14, x15, rfl, hF2, F16, F17, F18, F19, F20, hB, hZ⟩ hx3
   refine Fr.goOn hF2 (by kernel_rfl) ?_
   have hm := hx3
   unfold m_impl_box_s1 at hm
   refine cW_seq ?_
   refine cW_region ?_
   refine wS_pure 1 [(17, .bool (decide (x11 < (((l0).length : Int)))))] (by kernel_rfl) ?_
   refine wS_end (by rfl) ?_
   refine eX_then ?_
   refine cW_seq ?_
   refine cW_cond (t := decide (x11 < (((l0).length : Int)))) (by kernel_rfl) (fun hb1 => ?_) (fun hb1 => ?_)
   ·have hm := condT hb1 hm
    refine cW_skip ?_
    refine eX_then ?_
    refine cW_seq ?_
    refine cW_block ?_
    refine cW_seq ?_
    refine cW_region ?_
    obtain ⟨x16, hx4, hm⟩ := bindE hm
    refine wS_idx (d := 18) (T := 24) (A := A0) (n := (l0).length) (cap := cap0) (kd := .i64) (m := x11) (by kernel_rfl) sl24 (F16.is hx4) ?_
    refine wS_loadA (d := 19) (T := 27) (ad := (elA A0 2 (x11) 0)) (vs := [.int .i64 (x16.1), .int .i64 (x16.2)]) (by kernel_rfl) vt27 (fun i u hu => Sl.cells_at F16 hx4 0 hu (by rfl)) ?_
    refine wS_alloc (d := 7) (T := 27) (z := .agg #[.int .i64 (0), .int .i64 (0)]) (by kernel_rfl) (by kernel_rfl) ?_
    intro b9 w14 G9 F21 hc12
    replace F21 : Cl w14 b9 27 [.int .i64 (0), .int .i64 (0)] := F21
    have D17 : Dj [b1] [b9] := Dj.of (lt1 F17.lt) (low1 G9)
    have D18 : Dj [b2] [b9] := Dj.of (lt1 F18.lt) (low1 G9)
    have D19 : Dj [b3] [b9] := Dj.of (lt1 F19.lt) (low1 G9)
    have D20 : Dj [b4] [b9] := Dj.of (lt1 F20.lt) (low1 G9)
    replace F16 := F16.chg hc12 Dj.nil
    replace F17 := F17.chg hc12 notNil
    replace F18 := F18.chg hc12 notNil
    replace F19 := F19.chg hc12 notNil
    replace F20 := F20.chg hc12 notNil
    replace hB := hB.inS hc12 inNil
    replace G9 := Nat.le_trans hZ G9
    replace hZ := Nat.le_trans hZ hc12.size
    refine wS_store (T := 27) (g := b9) (o := 0) (ad := ⟨b9, 0, none⟩) (v := .agg #[.int .i64 (x16.1), .int .i64 (x16.2)]) (vs := [.int .i64 (x16.1), .int .i64 (x16.2)]) (by kernel_rfl) (by rfl) sz27 (by rfl) (by rfl) F21 (by simp only [List.length_cons, List.length_nil]; omega) ?_
    intro w15 F22 hc13
    replace F16 := F16.chg hc13 (Dj.of L0 (low1 G9))
    replace F17 := F17.chg hc13 (dj1 D17)
    replace F18 := F18.chg hc13 (dj1 D18)
    replace F19 := F19.chg hc13 (dj1 D19)
    replace F20 := F20.chg hc13 (dj1 D20)
    replace hB := hB.inS hc13 (inLow (low1 G9))
    replace hZ := Nat.le_trans hZ hc13.size
    replace F22 : Cl w15 b9 27 [.int .i64 (x16.1), .int .i64 (x16.2)] := F22
    clear F21
    refine wS_end (by rfl) ?_
    refine eX_then ?_
    refine cW_seq ?_
    refine cW_region ?_
    refine wS_pure 1 [(20, .pointer (some ⟨b3, 0, none⟩))] (by kernel_rfl) ?_
    refine wS_load1 (d := 21) (T := 2) (ad := ⟨b3, 0, none⟩) (v := .int .i64 (x12)) (by kernel_rfl) vt2 ((F19).cell 0) ?_
    refine wS_pure 1 [(22, .pointer (some ⟨b9, 0, none⟩))] (by kernel_rfl) ?_
    refine wS_load1 (d := 23) (T := 2) (ad := ⟨b9, 0, none⟩) (v := .int .i64 (x16.1)) (by kernel_rfl) vt2 ((F22).cell 0) ?_
    refine wS_pure 2 [(25, .pointer (some ⟨b3, 1, none⟩)), (24, .int .i64 (if x16.1 < x12 then x16.1 else x12))] (by kernel_rfl) ?_
    refine wS_load1 (d := 26) (T := 2) (ad := ⟨b3, 1, none⟩) (v := .int .i64 (x13)) (by kernel_rfl) vt2 ((F19).cell 1) ?_
    refine wS_pure 1 [(27, .pointer (some ⟨b9, 1, none⟩))] (by kernel_rfl) ?_
    refine wS_load1 (d := 28) (T := 2) (ad := ⟨b9, 1, none⟩) (v := .int .i64 (x16.2)) (by kernel_rfl) vt2 ((F22).cell 1) ?_
    refine wS_pure 2 [(30, .agg #[.int .i64 (if x16.1 < x12 then x16.1 else x12), .int .i64 (if x16.2 < x13 then x16.2 else x13)]), (29, .int .i64 (if x16.2 < x13 then x16.2 else x13))] (by kernel_rfl) ?_
    refine wS_store (T := 27) (g := b3) (o := 0) (ad := ⟨b3, 0, none⟩) (v := .agg #[.int .i64 (if x16.1 < x12 then x16.1 else x12), .int .i64 (if x16.2 < x13 then x16.2 else x13)]) (vs := [.int .i64 (if x16.1 < x12 then x16.1 else x12), .int .i64 (if x16.2 < x13 then x16.2 else x13)]) (by kernel_rfl) (by rfl) sz27 (by rfl) (by rfl) F19 (by simp only [List.length_cons, List.length_nil]; omega) ?_
    intro w16 F23 hc14
    replace F16 := F16.chg hc14 (Dj.of L0 (low1 G7))
    replace F17 := F17.chg hc14 (dj1 D12)
    replace F18 := F18.chg hc14 (dj1 D13)
    replace F20 := F20.chg hc14 (dj1 D14)
    replace F22 := F22.chg hc14 (dj1 (D19).symm)
    replace hB := hB.inS hc14 (inLow (low1 G7))
    replace hZ := Nat.le_trans hZ hc14.size
    replace F23 : Cl w16 b3 27 [.int .i64 (if x16.1 < x12 then x16.1 else x12), .int .i64 (if x16.2 < x13 then x16.2 else x13)] := F23
    clear F19
    refine wS_end (by rfl) ?_
    refine eX_then ?_
    refine cW_region ?_
    refine wS_pure 1 [(31, .pointer (some ⟨b4, 0, none⟩))] (by kernel_rfl) ?_
    refine wS_load1 (d := 32) (T := 2) (ad := ⟨b4, 0, none⟩) (v := .int .i64 (x14)) (by kernel_rfl) vt2 ((F20).cell 0) ?_
    refine wS_pure 1 [(33, .pointer (some ⟨b9, 0, none⟩))] (by kernel_rfl) ?_
    refine wS_load1 (d := 34) (T := 2) (ad := ⟨b9, 0, none⟩) (v := .int .i64 (x16.1)) (by kernel_rfl) vt2 ((F22).cell 0) ?_
    refine wS_pure 2 [(36, .pointer (some ⟨b4, 1, none⟩)), (35, .int .i64 (if x16.1 > x14 then x16.1 else x14))] (by kernel_rfl) ?_
    refine wS_load1 (d := 37) (T := 2) (ad := ⟨b4, 1, none⟩) (v := .int .i64 (x15)) (by kernel_rfl) vt2 ((F20).cell 1) ?_
    refine wS_pure 1 [(38, .pointer (some ⟨b9, 1, none⟩))] (by kernel_rfl) ?_
    refine wS_load1 (d := 39) (T := 2) (ad := ⟨b9, 1, none⟩) (v := .int .i64 (x16.2)) (by kernel_rfl) vt2 ((F22).cell 1) ?_
    refine wS_pure 2 [(41, .agg #[.int .i64 (if x16.1 > x14 then x16.1 else x14), .int .i64 (if x16.2 > x15 then x16.2 else x15)]), (40, .int .i64 (if x16.2 > x15 then x16.2 else x15))] (by kernel_rfl) ?_
    refine wS_store (T := 27) (g := b4) (o := 0) (ad := ⟨b4, 0, none⟩) (v := .agg #[.int .i64 (if x16.1 > x14 then x16.1 else x14), .int .i64 (if x16.2 > x15 then x16.2 else x15)]) (vs := [.int .i64 (if x16.1 > x14 then x16.1 else x14), .int .i64 (if x16.2 > x15 then x16.2 else x15)]) (by kernel_rfl) (by rfl) sz27 (by rfl) (by rfl) F20 (by simp only [List.length_cons, List.length_nil]; omega) ?_
    intro w17 F24 hc15
    replace F16 := F16.chg hc15 (Dj.of L0 (low1 G8))
    replace F17 := F17.chg hc15 (dj1 D15)
    replace F18 := F18.chg hc15 (dj1 D16)
    replace F23 := F23.chg hc15 (dj1 (D14).symm)
    replace F22 := F22.chg hc15 (dj1 (D20).symm)
    replace hB := hB.inS hc15 (inLow (low1 G8))
    replace hZ := Nat.le_trans hZ hc15.size
    replace F24 : Cl w17 b4 27 [.int .i64 (if x16.1 > x14 then x16.1 else x14), .int .i64 (if x16.2 > x15 then x16.2 else x15)] := F24
    clear F20
    refine wS_end (by rfl) ?_
    refine eX_block ?_
    refine eX_then ?_
    refine cW_prune [(2, .pointer (some ⟨b1, 0, none⟩)), (3, .pointer (some ⟨b2, 0, none⟩)), (4, .pointer (some ⟨b3, 0, none⟩)), (5, .pointer (some ⟨b4, 0, none⟩)), (14, .slice A0 (l0).length cap0), (15, .int .i64 (((l0).length : Int))), (16, .int .i64 (x11))] (by kernel_rfl) (by kernel_rfl) (fun a1 => ?_)
    refine cW_region ?_
    refine wS_pure 2 [(16, .int .i64 (wr (x11 + 1))), (42, .int .i64 (wr (x11 + 1)))] (by kernel_rfl) ?_
    refine wS_end (by rfl) ?_
    have hq : (some (Ctl.next ((wr (x11 + 1), if x16.1 < x12 then x16.1 else x12, if x16.2 < x13 then x16.2 else x13, if x16.1 > x14 then x16.1 else x14, if x16.2 > x15 then x16.2 else x15))) : Option (Ctl (Int × Int × Int × Int × Int) (Int × Int × Int × Int))) = some _ := hm
    replace hq := someE hq
    subst hq
    exact eX_next hx3 (fun hst => ⟨wr (x11 + 1), if x16.1 < x12 then x16.1 else x12, if x16.2 < x13 then x16.2 else x13, if x16.1 > x14 then x16.1 else x14, if x16.2 > x15 then x16.2 else x15, rfl, Fr.of hst (by kernel_rfl), F16, F17, F18, F23, F24, hB, hZ⟩)
   ·have hm := condF hb1 hm
    refine cW_exit ?_
    refine eX_then_exit ?_
    have hq : (some (Ctl.out ((x12, x13, x14, x15))) : Option (Ctl (Int × Int × Int × Int × Int) (Int × Int × Int × Int))) = some _ := hm
    replace hq := someE hq
    subst hq
    refine eX_outX hx3 (fun hr2 => ?_)
    replace hr2 := hr2.symm
    subst hr2
    refine eX_block_hit ?_
    exact eX_J (fun hst => ⟨x12, x13, x14, x15, rfl, Fr.of hst (by kernel_rfl), F17, F18, F19, F20, hB, hZ⟩)
  ·rintro a' w18 ⟨x7, x8, x9, x10, hJ, hF3, F25, F26, F27, F28, hB, hZ⟩
   subst hJ
   refine Fr.goX hF3 (by kernel_rfl) ?_
   refine eX_then ?_
   refine cW_seq ?_
   refine cW_drawnTail [b1] 3 (by kernel_rfl) (by kernel_rfl) (fun w19 hc16 => ?_)
   replace F25 := F25.chg hc16 notNil
   replace F26 := F26.chg hc16 notNil
   replace F27 := F27.chg hc16 notNil
   replace F28 := F28.chg hc16 notNil
   replace hB := hB.inS hc16 inNil
   replace hZ := Nat.le_trans hZ hc16.size
   have hS := Chg.refl [b1] w19
   have Z4 := F25
   have Z5 := F26
   have Z6 := F27
   have Z7 := F28
   refine wH_loadA (i := 0) (d := 43) (T := 27) (ad := ⟨b3, 0, none⟩) (vs := [.int .i64 (x7), .int .i64 (x8)]) (by kernel_rfl) (qT (qT qZ)) (by kernel_rfl) (by kernel_rfl) vt27 (fun W hW i u hu => box_cells (Z6.chg hW (dj1 (D12).symm)) 0 hu (by rfl)) ?_
   refine wH_loadA (i := 1) (d := 44) (T := 27) (ad := ⟨b4, 0, none⟩) (vs := [.int .i64 (x9), .int .i64 (x10)]) (by kernel_rfl) (qT (qT qZ)) (by kernel_rfl) (by kernel_rfl) vt27 (fun W hW i u hu => box_cells (Z7.chg hW (dj1 (D15).symm)) 0 hu (by rfl)) ?_
   refine wH_all [2] (by rfl) (by kernel_rfl) (by simp) ⟨⟨by kernel_rfl, ?_⟩, trivial⟩
   refine wS_store (T := 27) (g := b1) (o := 0) (ad := ⟨b1, 0, none⟩) (v := .agg #[.int .i64 (x7), .int .i64 (x8)]) (vs := [.int .i64 (x7), .int .i64 (x8)]) (by kernel_rfl) (by rfl) sz27 (by rfl) (by rfl) F25 (by simp only [List.length_cons, List.length_nil]; omega) ?_
   intro w20 F29 hc17
   replace F26 := F26.chg hc17 (dj1 (D1).symm)
   replace F27 := F27.chg hc17 (dj1 (D12).symm)
   replace F28 := F28.chg hc17 (dj1 (D15).symm)
   replace hB := hB.inS hc17 (inLow (low1 G1))
   have hSz := hS
   replace hS := hS.trans hc17
   replace hZ := Nat.le_trans hZ hc17.size
   replace F29 : Cl w20 b1 27 [.int .i64 (x7), .int .i64 (x8)] := F29
   clear F25
   refine wS_end (by kernel_rfl) ?_
   refine eX_KH hS ?_
   refine wH_done (by kernel_rfl) ?_
   refine eX_tail ?_
   refine wS_store (T := 27) (g := b2) (o := 0) (ad := ⟨b2, 0, none⟩) (v := .agg #[.int .i64 (x9), .int .i64 (x10)]) (vs := [.int .i64 (x9), .int .i64 (x10)]) (by kernel_rfl) (by rfl) sz27 (by rfl) (by rfl) F26 (by simp only [List.length_cons, List.length_nil]; omega) ?_
   intro w21 F30 hc18
   replace F29 := F29.chg hc18 (dj1 D1)
   replace F27 := F27.chg hc18 (dj1 (D13).symm)
   replace F28 := F28.chg hc18 (dj1 (D16).symm)
   replace hB := hB.inS hc18 (inLow (low1 G2))
   replace hZ := Nat.le_trans hZ hc18.size
   replace F30 : Cl w21 b2 27 [.int .i64 (x9), .int .i64 (x10)] := F30
   clear F26
   refine wS_end (by rfl) ?_
   refine eX_then ?_
   refine cW_ret ?_
   have hq : (some (((x7, x8), (x9, x10))) : Option ((Int × Int) × (Int × Int))) = some _ := hm
   replace hq := someE hq
   subst hq
   refine eX_ret (vs := [.agg #[.int .i64 (x7), .int .i64 (x8)], .agg #[.int .i64 (x9), .int .i64 (x10)]]) [.cell 2 27, .cell 3 27] (by rfl) ⟨⟨⟨b1, 0, none⟩, by kernel_rfl, run_loadVarA (vs := [.int .i64 (x7), .int .i64 (x8)]) vt27 (fun i u hu => by exact box_cells F29 0 hu (by rfl))⟩, ⟨⟨⟨b2, 0, none⟩, by kernel_rfl, run_loadVarA (vs := [.int .i64 (x9), .int .i64 (x10)]) vt27 (fun i u hu => by exact box_cells F30 0 hu (by rfl))⟩, trivial⟩⟩ ?_
   exact ⟨rfl, hB⟩

set_option maxRecDepth 100000 in
/-- impl.BoxOf -/
theorem c_impl_BoxOf {w0 : World} {l0 : List (Int × Int)} {A0 : Option Addr} {cap0 : Nat} {fp0 : List Nat} {r : (Int × Int) × (Int × Int) × (Bool)} (hm : m_impl_BoxOf l0 = some r) (F0 : Sl 2 encII w0 fp0 A0 l0) :
  Calls Tryz.prog 13 #[.slice A0 (l0).length cap0] w0 fun e w' => e = .returned (.tuple #[.agg #[.int .i64 (r.1.1), .int .i64 (r.1.2)], .agg #[.int .i64 (r.2.1.1), .int .i64 (r.2.1.2)], .bool (r.2.2)]) ∧ Chg [] w0 w' := by
 have L0 := F0.low
 have hB : Chg [] w0 w0 := Chg.refl _ _
 have hZ := Nat.le_refl w0.heap.size
 unfold m_impl_BoxOf at hm
 refine enterE (N := 24) Tryz.func13 (by rfl) Tryz.ntmps13 (by simp) [(0, .slice A0 (l0).length cap0)] (by rfl) (by kernel_rfl) (fun a => ?_)
 refine cW_seq ?_
 refine cW_region ?_
 refine wS_alloc (d := 2) (T := 27) (z := .agg #[.int .i64 (0), .int .i64 (0)]) (by kernel_rfl) (by kernel_rfl) ?_
 intro b1 w1 G1 F1 hc1
 replace F1 : Cl w1 b1 27 [.int .i64 (0), .int .i64 (0)] := F1
 replace F0 := F0.chg hc1 Dj.nil
 replace hB := hB.inS hc1 inNil
 replace G1 := Nat.le_trans hZ G1
 replace hZ := Nat.le_trans hZ hc1.size
 refine wS_alloc (d := 3) (T := 27) (z := .agg #[.int .i64 (0), .int .i64 (0)]) (by kernel_rfl) (by kernel_rfl) ?_
 intro b2 w2 G2 F2 hc2
 replace F2 : Cl w2 b2 27 [.int .i64 (0), .int .i64 (0)] := F2
 have D1 : Dj [b1] [b2] := Dj.of (lt1 F1.lt) (low1 G2)
 replace F0 := F0.chg hc2 Dj.nil
 replace F1 := F1.chg hc2 notNil
 replace hB := hB.inS hc2 inNil
 replace G2 := Nat.le_trans hZ G2
 replace hZ := Nat.le_trans hZ hc2.size
 refine wS_pure 1 [(4, .bool (false))] (by kernel_rfl) ?_
 refine wS_end (by rfl) ?_
 refine eX_then ?_
 refine cW_seq ?_
 refine cW_seq ?_
 refine cW_region ?_
 refine wS_pure 1 [(7, .slice A0 (l0).length cap0)] (by kernel_rfl) ?_
 obtain ⟨y1, hy1, hm⟩ := bindE hm
 refine wS_calls (d := 8) (f := 10) (vs := [.slice A0 (l0).length cap0]) (by kernel_rfl) ent10 (c_impl_ArePoints hy1 F0) ?_
 rintro _ w3 ⟨rfl, hc3⟩
 replace F0 := F0.chg hc3 Dj.nil
 replace F1 := F1.chg hc3 notNil
 replace F2 := F2.chg hc3 notNil
 replace hB := hB.inS hc3 inNil
 replace hZ := Nat.le_trans hZ hc3.size
 refine ⟨.bool (y1), rfl, ?_⟩
 refine wS_pure 2 [(10, .bool (!y1)), (9, .bool (!y1))] (by kernel_rfl) ?_
 refine wS_bool (!y1) (fun hb1 => ?_) (fun hb1 => ?_)
 ·have hm := condT hb1 hm
  rewrite [hb1]
  refine wS_pure 4 [(14, .bool (true)), (13, undef), (12, undef), (11, undef)] (by kernel_rfl) ?_
  refine wS_end (by rfl) ?_
  refine eX_then ?_
  refine cW_cond_t (by kernel_rfl) ?_
  refine cW_seq ?_
  refine cW_region ?_
  refine wS_pure 2 [(16, .agg #[.int .i64 (0), .int .i64 (0)]), (15, .agg #[.int .i64 (0), .int .i64 (0)])] (by kernel_rfl) ?_
  refine wS_store (T := 27) (g := b1) (o := 0) (ad := ⟨b1, 0, none⟩) (v := .agg #[.int .i64 (0), .int .i64 (0)]) (vs := [.int .i64 (0), .int .i64 (0)]) (by kernel_rfl) (by rfl) sz27 (by rfl) (by rfl) F1 (by simp only [List.length_cons, List.length_nil]; omega) ?_
  intro w4 F3 hc4
  replace F0 := F0.chg hc4 (Dj.of L0 (low1 G1))
  replace F2 := F2.chg hc4 (dj1 (D1).symm)
  replace hB := hB.inS hc4 (inLow (low1 G1))
  replace hZ := Nat.le_trans hZ hc4.size
  replace F3 : Cl w4 b1 27 [.int .i64 (0), .int .i64 (0)] := F3
  clear F1
  refine wS_store (T := 27) (g := b2) (o := 0) (ad := ⟨b2, 0, none⟩) (v := .agg #[.int .i64 (0), .int .i64 (0)]) (vs := [.int .i64 (0), .int .i64 (0)]) (by kernel_rfl) (by rfl) sz27 (by rfl) (by rfl) F2 (by simp only [List.length_cons, List.length_nil]; omega) ?_
  intro w5 F4 hc5
  replace F0 := F0.chg hc5 (Dj.of L0 (low1 G2))
  replace F3 := F3.chg hc5 (dj1 D1)
  replace hB := hB.inS hc5 (inLow (low1 G2))
  replace hZ := Nat.le_trans hZ hc5.size
  replace F4 : Cl w5 b2 27 [.int .i64 (0), .int .i64 (0)] := F4
  clear F2
  refine wS_pure 1 [(4, .bool (false))] (by kernel_rfl) ?_
  refine wS_end (by rfl) ?_
  refine eX_then ?_
  refine cW_ret ?_
  refine eX_then_ret ?_
  have hq : (some (((0, 0), (0, 0), false)) : Option ((Int × Int) × (Int × Int) × (Bool))) = some _ := hm
  replace hq := someE hq
  subst hq
  refine eX_ret (vs := [.agg #[.int .i64 (0), .int .i64 (0)], .agg #[.int .i64 (0), .int .i64 (0)], .bool (false)]) [.cell 2 27, .cell 3 27, .tmp 4] (by rfl) ⟨⟨⟨b1, 0, none⟩, by kernel_rfl, run_loadVarA (vs := [.int .i64 (0), .int .i64 (0)]) vt27 (fun i u hu => by exact box_cells F3 0 hu (by rfl))⟩, ⟨⟨⟨b2, 0, none⟩, by kernel_rfl, run_loadVarA (vs := [.int .i64 (0), .int .i64 (0)]) vt27 (fun i u hu => by exact box_cells F4 0 hu (by rfl))⟩, ⟨by (show lkE _ _ _ = _); kernel_rfl, trivial⟩⟩⟩ ?_
  exact ⟨rfl, hB⟩
 ·have hm := condF hb1 hm
  rewrite [hb1]
  refine wS_pure 4 [(14, .bool ((((l0).length : Int)) == 0)), (13, .bool ((((l0).length : Int)) == 0)), (12, .int .i64 (((l0).length : Int))), (11, .slice A0 (l0).length cap0)] (by kernel_rfl) ?_
  refine wS_end (by rfl) ?_
  refine eX_then ?_
  refine cW_cond (t := (((l0).length : Int)) == 0) (by kernel_rfl) (fun hb2 => ?_) (fun hb2 => ?_)
  ·have hm := condT hb2 hm
   refine cW_seq ?_
   refine cW_region ?_
   refine wS_pure 2 [(16, .agg #[.int .i64 (0), .int .i64 (0)]), (15, .agg #[.int .i64 (0), .int .i64 (0)])] (by kernel_rfl) ?_
   refine wS_store (T := 27) (g := b1) (o := 0) (ad := ⟨b1, 0, none⟩) (v := .agg #[.int .i64 (0), .int .i64 (0)]) (vs := [.int .i64 (0), .int .i64 (0)]) (by kernel_rfl) (by rfl) sz27 (by rfl) (by rfl) F1 (by simp only [List.length_cons, List.length_nil]; omega) ?_
   intro w6 F5 hc6
   replace F0 := F0.chg hc6 (Dj.of L0 (low1 G1))
   replace F2 := F2.chg hc6 (dj1 (D1).symm)
   replace hB := hB.inS hc6 (inLow (low1 G1))
   replace hZ := Nat.le_trans hZ hc6.size
   replace F5 : Cl w6 b1 27 [.int .i64 (0), .int .i64 (0)] := F5
   clear F1
   refine wS_store (T := 27) (g := b2) (o := 0) (ad := ⟨b2, 0, none⟩) (v := .agg #[.int .i64 (0), .int .i64 (0)]) (vs := [.int .i64 (0), .int .i64 (0)]) (by kernel_rfl) (by rfl) sz27 (by rfl) (by rfl) F2 (by simp only [List.length_cons, List.length_nil]; omega) ?_
   intro w7 F6 hc7
   replace F0 := F0.chg hc7 (Dj.of L0 (low1 G2))
   replace F5 := F5.chg hc7 (dj1 D1)
   replace hB := hB.inS hc7 (inLow (low1 G2))
   replace hZ := Nat.le_trans hZ hc7.size
   replace F6 : Cl w7 b2 27 [.int .i64 (0), .int .i64 (0)] := F6
   clear F2
   refine wS_pure 1 [(4, .bool (false))] (by kernel_rfl) ?_
   refine wS_end (by rfl) ?_
   refine eX_then ?_
   refine cW_ret ?_
   refine eX_then_ret ?_
   have hq : (some (((0, 0), (0, 0), false)) : Option ((Int × Int) × (Int × Int) × (Bool))) = some _ := hm
   replace hq := someE hq
   subst hq
   refine eX_ret (vs := [.agg #[.int .i64 (0), .int .i64 (0)], .agg #[.int .i64 (0), .int .i64 (0)], .bool (false)]) [.cell 2 27, .cell 3 27, .tmp 4] (by rfl) ⟨⟨⟨b1, 0, none⟩, by kernel_rfl, run_loadVarA (vs := [.int .i64 (0), .int .i64 (0)]) vt27 (fun i u hu => by exact box_cells F5 0 hu (by rfl))⟩, ⟨⟨⟨b2, 0, none⟩, by kernel_rfl, run_loadVarA (vs := [.int .i64 (0), .int .i64 (0)]) vt27 (fun i u hu => by exact box_cells F6 0 hu (by rfl))⟩, ⟨by (show lkE _ _ _ = _); kernel_rfl, trivial⟩⟩⟩ ?_
   exact ⟨rfl, hB⟩
  ·have hm := condF hb2 hm
   refine cW_skip ?_
   refine eX_then ?_
   refine cW_seq ?_
   refine cW_region ?_
   refine wS_pure 1 [(18, .slice A0 (l0).length cap0)] (by kernel_rfl) ?_
   obtain ⟨y2, hy2, hm⟩ := bindE hm
   refine wS_calls (d := 19) (f := 28) (vs := [.slice A0 (l0).length cap0]) (by kernel_rfl) ent28 (c_impl_box hy2 F0) ?_
   rintro _ w8 ⟨rfl, hc8⟩
   replace F0 := F0.chg hc8 Dj.nil
   replace F1 := F1.chg hc8 notNil
   replace F2 := F2.chg hc8 notNil
   replace hB := hB.inS hc8 inNil
   replace hZ := Nat.le_trans hZ hc8.size
   refine ⟨.tuple #[.agg #[.int .i64 (y2.1.1), .int .i64 (y2.1.2)], .agg #[.int .i64 (y2.2.1), .int .i64 (y2.2.2)]], rfl, ?_⟩
   refine wS_pure 3 [(21, .agg #[.int .i64 (y2.2.1), .int .i64 (y2.2.2)]), (20, .agg #[.int .i64 (y2.1.1), .int .i64 (y2.1.2)]), (17, .tuple #[.agg #[.int .i64 (y2.1.1), .int .i64 (y2.1.2)], .agg #[.int .i64 (y2.2.1), .int .i64 (y2.2.2)]])] (by kernel_rfl) ?_
   refine wS_alloc (d := 5) (T := 27) (z := .agg #[.int .i64 (0), .int .i64 (0)]) (by kernel_rfl) (by kernel_rfl) ?_
   intro b3 w9 G3 F7 hc9
   replace F7 : Cl w9 b3 27 [.int .i64 (0), .int .i64 (0)] := F7
   have D2 : Dj [b1] [b3] := Dj.of (lt1 F1.lt) (low1 G3)
   have D3 : Dj [b2] [b3] := Dj.of (lt1 F2.lt) (low1 G3)
   replace F0 := F0.chg hc9 Dj.nil
   replace F1 := F1.chg hc9 notNil
   replace F2 := F2.chg hc9 notNil
   replace hB := hB.inS hc9 inNil
   replace G3 := Nat.le_trans hZ G3
   replace hZ := Nat.le_trans hZ hc9.size
   refine wS_alloc (d := 6) (T := 27) (z := .agg #[.int .i64 (0), .int .i64 (0)]) (by kernel_rfl) (by kernel_rfl) ?_
   intro b4 w10 G4 F8 hc10
   replace F8 : Cl w10 b4 27 [.int .i64 (0), .int .i64 (0)] := F8
   have D4 : Dj [b1] [b4] := Dj.of (lt1 F1.lt) (low1 G4)
   have D5 : Dj [b2] [b4] := Dj.of (lt1 F2.lt) (low1 G4)
   have D6 : Dj [b3] [b4] := Dj.of (lt1 F7.lt) (low1 G4)
   replace F0 := F0.chg hc10 Dj.nil
   replace F1 := F1.chg hc10 notNil
   replace F2 := F2.chg hc10 notNil
   replace F7 := F7.chg hc10 notNil
   replace hB := hB.inS hc10 inNil
   replace G4 := Nat.le_trans hZ G4
   replace hZ := Nat.le_trans hZ hc10.size
   refine wS_store (T := 27) (g := b3) (o := 0) (ad := ⟨b3, 0, none⟩) (v := .agg #[.int .i64 (y2.1.1), .int .i64 (y2.1.2)]) (vs := [.int .i64 (y2.1.1), .int .i64 (y2.1.2)]) (by kernel_rfl) (by rfl) sz27 (by rfl) (by rfl) F7 (by simp only [List.length_cons, List.length_nil]; omega) ?_
   intro w11 F9 hc11
   replace F0 := F0.chg hc11 (Dj.of L0 (low1 G3))
   replace F1 := F1.chg hc11 (dj1 D2)
   replace F2 := F2.chg hc11 (dj1 D3)
   replace F8 := F8.chg hc11 (dj1 (D6).symm)
   replace hB := hB.inS hc11 (inLow (low1 G3))
   replace hZ := Nat.le_trans hZ hc11.size
   replace F9 : Cl w11 b3 27 [.int .i64 (y2.1.1), .int .i64 (y2.1.2)] := F9
   clear F7
   refine wS_store (T := 27) (g := b4) (o := 0) (ad := ⟨b4, 0, none⟩) (v := .agg #[.int .i64 (y2.2.1), .int .i64 (y2.2.2)]) (vs := [.int .i64 (y2.2.1), .int .i64 (y2.2.2)]) (by kernel_rfl) (by rfl) sz27 (by rfl) (by rfl) F8 (by simp only [List.length_cons, List.length_nil]; omega) ?_
   intro w12 F10 hc12
   replace F0 := F0.chg hc12 (Dj.of L0 (low1 G4))
   replace F1 := F1.chg hc12 (dj1 D4)
   replace F2 := F2.chg hc12 (dj1 D5)
   replace F9 := F9.chg hc12 (dj1 D6)
   replace hB := hB.inS hc12 (inLow (low1 G4))
   replace hZ := Nat.le_trans hZ hc12.size
   replace F10 : Cl w12 b4 27 [.int .i64 (y2.2.1), .int .i64 (y2.2.2)] := F10
   clear F8
   refine wS_end (by rfl) ?_
   refine eX_then ?_
   refine cW_seq ?_
   refine cW_drawnTail [b1] 3 (by kernel_rfl) (by kernel_rfl) (fun w13 hc13 => ?_)
   replace F0 := F0.chg hc13 Dj.nil
   replace F1 := F1.chg hc13 notNil
   replace F2 := F2.chg hc13 notNil
   replace F9 := F9.chg hc13 notNil
   replace F10 := F10.chg hc13 notNil
   replace hB := hB.inS hc13 inNil
   replace hZ := Nat.le_trans hZ hc13.size
   have hS := Chg.refl [b1] w13
   have Z1 := F0
   have Z2 := F1
   have Z3 := F2
   have Z4 := F9
   have Z5 := F10
   refine wH_loadA (i := 0) (d := 22) (T := 27) (ad := ⟨b3, 0, none⟩) (vs := [.int .i64 (y2.1.1), .int .i64 (y2.1.2)]) (by kernel_rfl) (qT (qT qZ)) (by kernel_rfl) (by kernel_rfl) vt27 (fun W hW i u hu => box_cells (Z4.chg hW (dj1 (D2).symm)) 0 hu (by rfl)) ?_
   refine wH_loadA (i := 1) (d := 23) (T := 27) (ad := ⟨b4, 0, none⟩) (vs := [.int .i64 (y2.2.1), .int .i64 (y2.2.2)]) (by kernel_rfl) (qT (qT qZ)) (by kernel_rfl) (by kernel_rfl) vt27 (fun W hW i u hu => box_cells (Z5.chg hW (dj1 (D4).symm)) 0 hu (by rfl)) ?_
   refine wH_all [2] (by rfl) (by kernel_rfl) (by simp) ⟨⟨by kernel_rfl, ?_⟩, trivial⟩
   refine wS_store (T := 27) (g := b1) (o := 0) (ad := ⟨b1, 0, none⟩) (v := .agg #[.int .i64 (y2.1.1), .int .i64 (y2.1.2)]) (vs := [.int .i64 (y2.1.1), .int .i64 (y2.1.2)]) (by kernel_rfl) (by rfl) sz27 (by rfl) (by rfl) F1 (by simp only [List.length_cons, List.length_nil]; omega) ?_
   intro w14 F11 hc14
   replace F0 := F0.chg hc14 (Dj.of L0 (low1 G1))
   replace F2 := F2.chg hc14 (dj1 (D1).symm)
   replace F9 := F9.chg hc14 (dj1 (D2).symm)
   replace F10 := F10.chg hc14 (dj1 (D4).symm)
   replace hB := hB.inS hc14 (inLow (low1 G1))
   have hSz := hS
   replace hS := hS.trans hc14
   replace hZ := Nat.le_trans hZ hc14.size
   replace F11 : Cl w14 b1 27 [.int .i64 (y2.1.1), .int .i64 (y2.1.2)] := F11
   clear F1
   refine wS_end (by kernel_rfl) ?_
   refine eX_KH hS ?_
   refine wH_done (by kernel_rfl) ?_
   refine eX_tail ?_
   refine wS_store (T := 27) (g := b2) (o := 0) (ad := ⟨b2, 0, none⟩) (v := .agg #[.int .i64 (y2.2.1), .int .i64 (y2.2.2)]) (vs := [.int .i64 (y2.2.1), .int .i64 (y2.2.2)]) (by kernel_rfl) (by rfl) sz27 (by rfl) (by rfl) F2 (by simp only [List.length_cons, List.length_nil]; omega) ?_
   intro w15 F12 hc15
   replace F0 := F0.chg hc15 (Dj.of L0 (low1 G2))
   replace F11 := F11.chg hc15 (dj1 D1)
   replace F9 := F9.chg hc15 (dj1 (D3).symm)
   replace F10 := F10.chg hc15 (dj1 (D5).symm)
   replace hB := hB.inS hc15 (inLow (low1 G2))
   replace hZ := Nat.le_trans hZ hc15.size
   replace F12 : Cl w15 b2 27 [.int .i64 (y2.2.1), .int .i64 (y2.2.2)] := F12
   clear F2
   refine wS_pure 1 [(4, .bool (true))] (by kernel_rfl) ?_
   refine wS_end (by rfl) ?_
   refine eX_then ?_
   refine cW_ret ?_
   have hq : (some (((y2.1.1, y2.1.2), (y2.2.1, y2.2.2), true)) : Option ((Int × Int) × (Int × Int) × (Bool))) = some _ := hm
   replace hq := someE hq
   subst hq
   refine eX_ret (vs := [.agg #[.int .i64 (y2.1.1), .int .i64 (y2.1.2)], .agg #[.int .i64 (y2.2.1), .int .i64 (y2.2.2)], .bool (true)]) [.cell 2 27, .cell 3 27, .tmp 4] (by rfl) ⟨⟨⟨b1, 0, none⟩, by kernel_rfl, run_loadVarA (vs := [.int .i64 (y2.1.1), .int .i64 (y2.1.2)]) vt27 (fun i u hu => by exact box_cells F11 0 hu (by rfl))⟩, ⟨⟨⟨b2, 0, none⟩, by kernel_rfl, run_loadVarA (vs := [.int .i64 (y2.2.1), .int .i64 (y2.2.2)]) vt27 (fun i u hu => by exact box_cells F12 0 hu (by rfl))⟩, ⟨by (show lkE _ _ _ = _); kernel_rfl, trivial⟩⟩⟩ ?_
   exact ⟨rfl, hB⟩

set_option maxRecDepth 100000 in
/-- impl.size -/
theorem c_impl_size {w0 : World} {p0 : Int} {r : (Int)} (hm : m_impl_size p0 = some r)  :
  Calls Tryz.prog 45 #[.int .i64 (p0)] w0 fun e w' => e = .returned (.int .i64 (r)) ∧ Chg [] w0 w' := by
 have hB : Chg [] w0 w0 := Chg.refl _ _
 have hZ := Nat.le_refl w0.heap.size
 unfold m_impl_size at hm
 refine enterE (N := 7) Tryz.func45 (by rfl) Tryz.ntmps45 (by simp) [(0, .int .i64 (p0))] (by rfl) (by kernel_rfl) (fun a => ?_)
 refine cW_seq ?_
 refine cW_region ?_
 refine wS_pure 1 [(2, .int .i64 (0))] (by kernel_rfl) ?_
 refine wS_end (by rfl) ?_
 refine eX_then ?_
 refine cW_seq ?_
 refine cW_region ?_
 refine wS_pure 5 [(2, .int .i64 (if (wr (0 - p0)) > p0 then (wr (0 - p0)) else p0)), (6, .int .i64 (if (wr (0 - p0)) > p0 then (wr (0 - p0)) else p0)), (5, .int .i64 (wr (0 - p0))), (4, .int .i64 (p0)), (3, .int .i64 (p0))] (by kernel_rfl) ?_
 refine wS_end (by rfl) ?_
 refine eX_then ?_
 refine cW_ret ?_
 have hq : (some (if (wr (0 - p0)) > p0 then (wr (0 - p0)) else p0) : Option ((Int))) = some _ := hm
 replace hq := someE hq
 subst hq
 refine eX_ret (vs := [.int .i64 (if (wr (0 - p0)) > p0 then (wr (0 - p0)) else p0)]) [.tmp 2] (by rfl) ⟨by (show lkE _ _ _ = _); kernel_rfl, trivial⟩ ?_
 exact ⟨rfl, hB⟩

set_option maxRecDepth 100000 in
/-- impl.far -/
theorem c_impl_far {w0 : World} {p0_0 : Int} {p0_1 : Int} {p1_0 : Int} {p1_1 : Int} {r : (Int)} (hm : m_impl_far p0_0 p0_1 p1_0 p1_1 = some r)  :
  Calls Tryz.prog 30 #[.agg #[.int .i64 (p0_0), .int .i64 (p0_1)], .agg #[.int .i64 (p1_0), .int .i64 (p1_1)]] w0 fun e w' => e = .returned (.int .i64 (r)) ∧ Chg [] w0 w' := by
 have hB : Chg [] w0 w0 := Chg.refl _ _
 have hZ := Nat.le_refl w0.heap.size
 unfold m_impl_far at hm
 refine enterE (N := 18) Tryz.func30 (by rfl) Tryz.ntmps30 (by simp) [(0, .agg #[.int .i64 (p0_0), .int .i64 (p0_1)]), (1, .agg #[.int .i64 (p1_0), .int .i64 (p1_1)])] (by rfl) (by kernel_rfl) (fun a => ?_)
 refine cW_seq ?_
 refine cW_region ?_
 refine wS_box (d := 2) (T := 27) (x := .agg #[.int .i64 (p0_0), .int .i64 (p0_1)]) (by kernel_rfl) ?_
 intro b1 w1 G1 F1 hc1
 replace F1 : Cl w1 b1 27 [.int .i64 (p0_0), .int .i64 (p0_1)] := F1
 replace hB := hB.inS hc1 inNil
 replace G1 := Nat.le_trans hZ G1
 replace hZ := Nat.le_trans hZ hc1.size
 refine wS_box (d := 3) (T := 27) (x := .agg #[.int .i64 (p1_0), .int .i64 (p1_1)]) (by kernel_rfl) ?_
 intro b2 w2 G2 F2 hc2
 replace F2 : Cl w2 b2 27 [.int .i64 (p1_0), .int .i64 (p1_1)] := F2
 have D1 : Dj [b1] [b2] := Dj.of (lt1 F1.lt) (low1 G2)
 replace F1 := F1.chg hc2 notNil
 replace hB := hB.inS hc2 inNil
 replace G2 := Nat.le_trans hZ G2
 replace hZ := Nat.le_trans hZ hc2.size
 refine wS_pure 1 [(4, .int .i64 (0))] (by kernel_rfl) ?_
 refine wS_end (by rfl) ?_
 refine eX_then ?_
 refine cW_seq ?_
 refine cW_drawnTail [] 11 (by kernel_rfl) (by kernel_rfl) (fun w3 hc3 => ?_)
 replace F1 := F1.chg hc3 notNil
 replace F2 := F2.chg hc3 notNil
 replace hB := hB.inS hc3 inNil
 replace hZ := Nat.le_trans hZ hc3.size
 have hS := Chg.refl [] w3
 have Z1 := F1
 have Z2 := F2
 refine wH_take [0] [0] [(5, .pointer (some ⟨b1, 0, none⟩))] (by kernel_rfl) (qT (qT qZ)) (by kernel_rfl) ?_
 refine wH_load1 (i := 1) (d := 6) (T := 2) (ad := ⟨b1, 0, none⟩) (v := .int .i64 (p0_0)) (by kernel_rfl) (qT (qT qZ)) (by kernel_rfl) (by kernel_rfl) vt2 (fun W hW => (Z1.chg hW notNil).cell 0) ?_
 refine wH_take [2] [2, 1, 0] [(7, .pointer (some ⟨b2, 0, none⟩))] (by kernel_rfl) (qT (qT qZ)) (by kernel_rfl) ?_
 refine wH_load1 (i := 3) (d := 8) (T := 2) (ad := ⟨b2, 0, none⟩) (v := .int .i64 (p1_0)) (by kernel_rfl) (qT (qT qZ)) (by kernel_rfl) (by kernel_rfl) vt2 (fun W hW => (Z2.chg hW notNil).cell 0) ?_
 refine wH_take [4, 6] [6, 4, 3, 2, 1, 0] [(11, .pointer (some ⟨b1, 1, none⟩)), (9, .int .i64 (wr (p0_0 - p1_0)))] (by kernel_rfl) (qT (qT qZ)) (by kernel_rfl) ?_
 refine wH_load1 (i := 7) (d := 12) (T := 2) (ad := ⟨b1, 1, none⟩) (v := .int .i64 (p0_1)) (by kernel_rfl) (qT (qT qZ)) (by kernel_rfl) (by kernel_rfl) vt2 (fun W hW => (Z1.chg hW notNil).cell 1) ?_
 refine wH_take [8] [8, 7, 6, 4, 3, 2, 1, 0] [(13, .pointer (some ⟨b2, 1, none⟩))] (by kernel_rfl) (qT (qT qZ)) (by kernel_rfl) ?_
 refine wH_load1 (i := 9) (d := 14) (T := 2) (ad := ⟨b2, 1, none⟩) (v := .int .i64 (p1_1)) (by kernel_rfl) (qT (qT qZ)) (by kernel_rfl) (by kernel_rfl) vt2 (fun W hW => (Z2.chg hW notNil).cell 1) ?_
 refine wH_take [10] [10, 9, 8, 7, 6, 4, 3, 2, 1, 0] [(15, .int .i64 (wr (p0_1 - p1_1)))] (by kernel_rfl) (qT (qT qZ)) (by kernel_rfl) ?_
 refine wH_all [5] (by rfl) (by kernel_rfl) (by simp) ⟨⟨by kernel_rfl, ?_⟩, trivial⟩
 obtain ⟨y1, hy1, hm⟩ := bindE hm
 refine wS_calls (d := 10) (f := 45) (vs := [.int .i64 (wr (p0_0 - p1_0))]) (by kernel_rfl) ent45 (c_impl_size hy1) ?_
 rintro _ w4 ⟨rfl, hc4⟩
 replace F1 := F1.chg hc4 notNil
 replace F2 := F2.chg hc4 notNil
 replace hB := hB.inS hc4 inNil
 have hSz := hS
 replace hS := hS.inS hc4 inNil
 replace hZ := Nat.le_trans hZ hc4.size
 refine ⟨.int .i64 (y1), rfl, ?_⟩
 refine wS_end (by kernel_rfl) ?_
 refine eX_KH hS ?_
 refine wH_done (by kernel_rfl) ?_
 refine eX_tail ?_
 obtain ⟨y2, hy2, hm⟩ := bindE hm
 refine wS_calls (d := 16) (f := 45) (vs := [.int .i64 (wr (p0_1 - p1_1))]) (by kernel_rfl) ent45 (c_impl_size hy2) ?_
 rintro _ w5 ⟨rfl, hc5⟩
 replace F1 := F1.chg hc5 notNil
 replace F2 := F2.chg hc5 notNil
 replace hB := hB.inS hc5 inNil
 replace hZ := Nat.le_trans hZ hc5.size
 refine ⟨.int .i64 (y2), rfl, ?_⟩
 refine wS_pure 2 [(4, .int .i64 (wr (y1 + y2))), (17, .int .i64 (wr (y1 + y2)))] (by kernel_rfl) ?_
 refine wS_end (by rfl) ?_
 refine eX_then ?_
 refine cW_ret ?_
 have hq : (some (wr (y1 + y2)) : Option ((Int))) = some _ := hm
 replace hq := someE hq
 subst hq
 refine eX_ret (vs := [.int .i64 (wr (y1 + y2))]) [.tmp 4] (by rfl) ⟨by (show lkE _ _ _ = _); kernel_rfl, trivial⟩ ?_
 exact ⟨rfl, hB⟩

end Go.Proofs.YtpfipmomchgdaaaGreatDoor
