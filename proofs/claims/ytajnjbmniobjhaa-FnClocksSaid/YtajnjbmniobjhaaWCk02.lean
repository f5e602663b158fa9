/- Printed walks: impl.IsJoins, impl.IsPoint, impl.noPoint, slices.IndexFunc[[]impl.Point,impl.Point], slices.ContainsFunc[[]impl.Point,impl.Point], impl.clockPins, impl.leaf, impl.tree, impl.ClockMerges, impl.ClockWires, impl.nearest, impl.ClockPlaces, impl.SkewOf$1, slices.Max[[]int64,int64], slices.Min[[]int64,int64], slices.IndexFunc[[]int64,int64], slices.ContainsFunc[[]int64,int64], impl.SkewOf, laws.r8At. -/
import Derived.Test.YtajnjbmniobjhaaProg
import Derived.Test.YtajnjbmniobjhaaWCk01
set_option linter.unusedSimpArgs false
set_option linter.unusedVariables false
namespace Go.Proofs.Ytajnjbmniobjhaa
open Go.RowKit
attribute [local irreducible] wS cW eX wH

theorem ent44 : Ent Try.prog 44 := fun _ => by kernel_rfl
theorem ent76 : Ent Try.prog 76 := fun _ => by kernel_rfl
theorem ent87 : Ent Try.prog 87 := fun _ => by kernel_rfl
theorem ent96 : Ent Try.prog 96 := fun _ => by kernel_rfl
theorem ent97 : Ent Try.prog 97 := fun _ => by kernel_rfl
theorem ent98 : Ent Try.prog 98 := fun _ => by kernel_rfl
theorem ent99 : Ent Try.prog 99 := fun _ => by kernel_rfl
theorem ent100 : Ent Try.prog 100 := fun _ => by kernel_rfl
theorem ent101 : Ent Try.prog 101 := fun _ => by kernel_rfl
theorem ent102 : Ent Try.prog 102 := fun _ => by kernel_rfl
theorem ent126 : Ent Try.prog 126 := fun _ => by kernel_rfl
theorem ent136 : Ent Try.prog 136 := fun _ => by kernel_rfl
theorem ent137 : Ent Try.prog 137 := fun _ => by kernel_rfl
theorem ent157 : Ent Try.prog 157 := fun _ => by kernel_rfl
theorem ent158 : Ent Try.prog 158 := fun _ => by kernel_rfl
theorem vt38 : VarTy Try.prog 38 1 false := ⟨by kernel_rfl, by kernel_rfl⟩
theorem sl37 : SlTy Try.prog 37 38 1 := ⟨Try.underlying37, by kernel_rfl⟩
theorem sl58 : SlTy Try.prog 58 116 2 := ⟨Try.underlying58, by kernel_rfl⟩
theorem sl61 : SlTy Try.prog 61 27 5 := ⟨Try.underlying61, by kernel_rfl⟩
theorem el61 : ElTy Try.prog 61 27 5 (.agg #[.int .i64 (0), .int .i64 (0), .int .i64 (0), .int .i64 (0), .int .i64 (0)]) := ElTy.mk' Try.underlying61 (by kernel_rfl) (by rfl)
theorem mk120 : MK Try.prog 2 kI okI := mkI Try.underlying2
theorem mp120 : MpTy Try.prog 120 2 4 (vB false) := ⟨Try.underlying120, by kernel_rfl⟩
theorem sz38 : pureRun Try.prog (sizeOf 38) = some 1 := by kernel_rfl

set_option maxRecDepth 100000 in
/-- impl.IsJoins -/
theorem c_impl_IsJoins {w0 : World} {p0 : Int} {l1 : List (List (Int))} {A1 : Option Addr} {cap1 : Nat} {fp1 : List Nat} {r : (Bool)} (hm : m_impl_IsJoins p0 l1 = some r) (F1 : SlR 1 encI w0 fp1 A1 l1) :
    Calls Try.prog 44 #[.int .i64 (p0), .slice A1 (l1).length cap1] w0 fun e w' => e = .returned (.bool (r)) ∧ Chg [] w0 w' := by
  have L1 := F1.low
  have hB : Chg [] w0 w0 := Chg.refl _ _
  have hZ := Nat.le_refl w0.heap.size
  unfold m_impl_IsJoins at hm
  refine enterE (N := 80) Try.func44 (by rfl) Try.ntmps44 (by simp) [(0, .int .i64 (p0)), (1, .slice A1 (l1).length cap1)] (by rfl) (by kernel_rfl) (fun a => ?_)
  refine cW_seq ?_
  refine cW_region ?_
  refine wS_pure 1 [(4, .bool (false))] (by kernel_rfl) ?_
  refine wS_end (by rfl) ?_
  refine eX_then ?_
  refine cW_seq ?_
  refine cW_seq ?_
  refine cW_region ?_
  refine wS_pure 1 [(8, .int .i64 (p0))] (by kernel_rfl) ?_
  obtain ⟨y2, hy3, hm⟩ := bindE hm
  refine wS_calls (d := 9) (f := 77) (vs := [.int .i64 (p0), .int .i64 (2), .int .i64 (12)]) (by kernel_rfl) ent77 (c_impl_in hy3) ?_
  rintro _ w4 ⟨rfl, hc5⟩
  replace F1 := F1.chg hc5 Dj.nil
  replace hB := hB.inS hc5 inNil
  replace hZ := Nat.le_trans hZ hc5.size
  refine ⟨.bool (y2), rfl, ?_⟩
  refine wS_pure 2 [(11, .bool (!y2)), (10, .bool (!y2))] (by kernel_rfl) ?_
  refine wS_bool (!y2) (fun hb6 => ?_) (fun hb6 => ?_)
  · have hm := condT hb6 hm
    rewrite [hb6]
    refine wS_pure 6 [(17, .bool (true)), (16, undef), (15, undef), (14, undef), (13, undef), (12, undef)] (by kernel_rfl) ?_
    refine wS_end (by rfl) ?_
    refine eX_then ?_
    refine cW_cond_t (by kernel_rfl) ?_
    refine cW_seq ?_
    refine cW_region ?_
    refine wS_pure 1 [(4, .bool (false))] (by kernel_rfl) ?_
    refine wS_end (by rfl) ?_
    refine eX_then ?_
    refine cW_ret ?_
    refine eX_then_ret ?_
    have hq : (some false : Option ((Bool))) = some _ := hm
    replace hq := someE hq
    subst hq
    refine eX_ret (vs := [.bool (false)]) [.tmp 4] (by rfl) ⟨by (show lkE _ _ _ = _); kernel_rfl, trivial⟩ ?_
    exact ⟨rfl, hB⟩
  · have hm := condF hb6 hm
    rewrite [hb6]
    refine wS_pure 6 [(17, .bool ((((l1).length : Int)) != (wr (p0 - 1)))), (16, .bool ((((l1).length : Int)) != (wr (p0 - 1)))), (15, .int .i64 (wr (p0 - 1))), (14, .int .i64 (p0)), (13, .int .i64 (((l1).length : Int))), (12, .slice A1 (l1).length cap1)] (by kernel_rfl) ?_
    refine wS_end (by rfl) ?_
    refine eX_then ?_
    refine cW_cond (t := (((l1).length : Int)) != (wr (p0 - 1))) (by kernel_rfl) (fun hb7 => ?_) (fun hb7 => ?_)
    · have hm := condT hb7 hm
      refine cW_seq ?_
      refine cW_region ?_
      refine wS_pure 1 [(4, .bool (false))] (by kernel_rfl) ?_
      refine wS_end (by rfl) ?_
      refine eX_then ?_
      refine cW_ret ?_
      refine eX_then_ret ?_
      have hq : (some false : Option ((Bool))) = some _ := hm
      replace hq := someE hq
      subst hq
      refine eX_ret (vs := [.bool (false)]) [.tmp 4] (by rfl) ⟨by (show lkE _ _ _ = _); kernel_rfl, trivial⟩ ?_
      exact ⟨rfl, hB⟩
    · have hm := condF hb7 hm
      refine cW_skip ?_
      refine eX_then ?_
      refine cW_seq ?_
      refine cW_region ?_
      refine wS_makeMap (V := Bool) (d := 18) (T := 120) (by kernel_rfl) okI kI vB ?_
      intro b8 w9 G10 F11 hc12
      replace F1 := F1.chg hc12 Dj.nil
      replace hB := hB.inS hc12 inNil
      replace G10 := Nat.le_trans hZ G10
      replace G10 := low1 G10
      replace hZ := Nat.le_trans hZ hc12.size
      refine wS_pure 1 [(5, .map (some b8))] (by kernel_rfl) ?_
      refine wS_end (by rfl) ?_
      refine eX_then ?_
      refine cW_seq ?_
      refine cW_seq ?_
      refine cW_region ?_
      refine wS_pure 3 [(21, .int .i64 (0)), (20, .int .i64 (((l1).length : Int))), (19, .slice A1 (l1).length cap1)] (by kernel_rfl) ?_
      refine wS_end (by rfl) ?_
      refine eX_then ?_
      obtain ⟨r274, hr275, hm⟩ := bindE hm
      have hm276 := hm
      refine cW_cut (fun a' w' => Sum.inl (()) = r274 ∧ Fr 80 [] a' ∧ Chg [] w0 w' ∧ w0.heap.size ≤ w'.heap.size) ?_ ?_
      · refine cW_block ?_
        refine cW_loop _ (fun (s277 : Int × (List (Int × Bool))) a' w' => ∃ x269 : Int, ∃ l270 : List (Int × Bool), (x269, l270) = s277 ∧ Fr 80 [(0, .int .i64 (p0)), (5, .map (some b8)), (19, .slice A1 (l1).length cap1), (20, .int .i64 (((l1).length : Int))), (21, .int .i64 (x269))] a' ∧ SlR 1 encI w' fp1 A1 l1 ∧ Mp okI kI vB w' b8 l270 ∧ Chg [] w0 w' ∧ w0.heap.size ≤ w'.heap.size) hr275 (fun hst => ⟨0, ([] : List (Int × Bool)), rfl, Fr.of hst (by kernel_rfl), F1, F11, hB, hZ⟩) ?_
        rintro _ c278 a' w268 ⟨x269, l270, rfl, hF271, F272, F273, hB, hZ⟩ hx279
        refine Fr.goOn hF271 (by kernel_rfl) ?_
        have hm := hx279
        unfold m_impl_IsJoins_s1 at hm
        refine cW_seq ?_
        refine cW_region ?_
        refine wS_pure 1 [(22, .bool (decide (x269 < (((l1).length : Int)))))] (by kernel_rfl) ?_
        refine wS_end (by rfl) ?_
        refine eX_then ?_
        refine cW_seq ?_
        refine cW_cond (t := decide (x269 < (((l1).length : Int)))) (by kernel_rfl) (fun hb280 => ?_) (fun hb280 => ?_)
        · have hm := condT hb280 hm
          refine cW_skip ?_
          refine eX_then ?_
          refine cW_seq ?_
          refine cW_block ?_
          refine cW_seq ?_
          refine cW_region ?_
          refine wS_pure 1 [(23, .int .i64 (x269))] (by kernel_rfl) ?_
          obtain ⟨x281, hx282, hm⟩ := bindE hm
          refine wS_idx (d := 24) (T := 37) (A := A1) (n := (l1).length) (cap := cap1) (kd := .i64) (m := x269) (by kernel_rfl) sl37 (F272.is hx282) ?_
          obtain ⟨A283, cap284, hc286, F285, K287⟩ := SlR.row F272 hx282
          refine wS_load1 (d := 25) (T := 38) (ad := (elA A1 1 (x269) 0)) (v := .slice A283 (x281).length cap284) (by kernel_rfl) vt38 hc286 ?_
          refine wS_pure 2 [(7, .slice A283 (x281).length cap284), (6, .int .i64 (x269))] (by kernel_rfl) ?_
          refine wS_end (by rfl) ?_
          refine eX_then ?_
          refine cW_seq ?_
          refine cW_seq ?_
          refine cW_drawnTail [] 39 (by kernel_rfl) (by kernel_rfl) (fun w315 hc316 => ?_)
          replace F272 := F272.chg hc316 Dj.nil
          replace F273 := F273.chg hc316 Dj.nil
          replace F285 := F285.chg hc316 Dj.nil
          replace hB := hB.inS hc316 inNil
          replace hZ := Nat.le_trans hZ hc316.size
          have hS := Chg.refl [] w315
          have Z317 := F272
          have Z318 := F273
          have Z319 := F285
          refine wH_take [0, 1, 2, 3] [3, 2, 1, 0] [(29, .bool ((((x281).length : Int)) != 2)), (28, .bool ((((x281).length : Int)) != 2)), (27, .int .i64 (((x281).length : Int))), (26, .slice A283 (x281).length cap284)] (by kernel_rfl) (qT (qT (qT (qB (qT (qL (qB (qT (qT qZ))))))))) (by kernel_rfl) ?_
          refine wH_bool ((((x281).length : Int)) != 2) (fun hb320 => ?_) (fun hb320 => ?_)
          · have hm := condT hb320 hm
            rewrite [hb320]
            refine wH_take [4, 5, 6, 7, 8, 9, 10, 11, 12, 13, 14, 15, 16, 17, 18, 19, 20, 21, 22, 23, 24, 25, 26, 27, 28, 29, 30, 31, 32, 33, 34, 35, 36, 37, 38] [38, 37, 36, 35, 34, 33, 32, 31, 30, 29, 28, 27, 26, 25, 24, 23, 22, 21, 20, 19, 18, 17, 16, 15, 14, 13, 12, 11, 10, 9, 8, 7, 6, 5, 4, 3, 2, 1, 0] [(64, undef), (63, undef), (62, undef), (61, undef), (60, .bool (true)), (59, .bool (true)), (58, undef), (57, undef), (56, undef), (55, undef), (54, undef), (53, .bool (true)), (52, .bool (true)), (51, undef), (50, undef), (49, undef), (48, undef), (47, undef), (46, undef), (45, undef), (44, .bool (true)), (43, .bool (true)), (42, undef), (41, undef), (40, undef), (39, undef), (38, undef), (37, undef), (36, undef), (35, .bool (true)), (34, .bool (true)), (33, undef), (32, undef), (31, undef), (30, undef)] (by kernel_rfl) (qT (qT (qT (qB (qT (qL (qB (qT (qT qZ))))))))) (by kernel_rfl) ?_
            refine wH_done (by kernel_rfl) ?_
            refine eX_tail ?_
            refine wS_pure 2 [(66, .bool (true)), (65, undef)] (by kernel_rfl) ?_
            refine wS_end (by rfl) ?_
            refine eX_then ?_
            refine cW_prune [(0, .int .i64 (p0)), (5, .map (some b8)), (7, .slice A283 (x281).length cap284), (19, .slice A1 (l1).length cap1), (20, .int .i64 (((l1).length : Int))), (21, .int .i64 (x269)), (66, .bool (true))] (by kernel_rfl) (by kernel_rfl) (fun a321 => ?_)
            refine cW_cond_t (by kernel_rfl) ?_
            refine cW_seq ?_
            refine cW_region ?_
            refine wS_pure 1 [(4, .bool (false))] (by kernel_rfl) ?_
            refine wS_end (by rfl) ?_
            refine eX_then ?_
            refine cW_ret ?_
            refine eX_then_ret ?_
            refine eX_block_ret ?_
            refine eX_then_ret ?_
            have hq : (some (Ctl.out (Sum.inr false)) : Option (Ctl (Int × (List (Int × Bool))) (Sum (Unit) ((Bool))))) = some _ := hm
            replace hq := someE hq
            subst hq
            refine eX_outR hx279 (fun hr => ?_)
            subst hr
            refine eX_block_ret ?_
            refine eX_then_ret ?_
            refine eX_then_ret ?_
            have hq : (some false : Option ((Bool))) = some _ := hm276
            replace hq := someE hq
            subst hq
            refine eX_ret (vs := [.bool (false)]) [.tmp 4] (by rfl) ⟨by (show lkE _ _ _ = _); kernel_rfl, trivial⟩ ?_
            exact ⟨rfl, hB⟩
          · have hm := condF hb320 hm
            rewrite [hb320]
            refine wH_take [4] [4, 3, 2, 1, 0] [(30, .slice A283 (x281).length cap284)] (by kernel_rfl) (qT (qT (qT (qB (qT (qL (qB (qT (qT qZ))))))))) (by kernel_rfl) ?_
            obtain ⟨x322, hx323, hm⟩ := bindE hm
            refine wH_idx (i := 5) (d := 31) (T := 38) (A := A283) (n := (x281).length) (cap := cap284) (kd := .i64) (m := 0) (by kernel_rfl) (qT (qT (qT (qB (qT (qL (qB (qT (qT qZ))))))))) (by kernel_rfl) (by kernel_rfl) sl38 (F285.is hx323) ?_
            refine wH_load1 (i := 6) (d := 32) (T := 2) (ad := (elA A283 1 (0) 0)) (v := .int .i64 (x322)) (by kernel_rfl) (qT (qT (qT (qB (qT (qL (qB (qT (qT qZ))))))))) (by kernel_rfl) (by kernel_rfl) vt2 (fun W hW => Sl.cell (Z319.chg hW Dj.nil) hx323 0 (by rfl)) ?_
            refine wH_take [7, 8, 9] [9, 8, 7, 6, 5, 4, 3, 2, 1, 0] [(35, .bool (decide (x322 < 0))), (34, .bool (decide (x322 < 0))), (33, .bool (decide (x322 < 0)))] (by kernel_rfl) (qT (qT (qT (qB (qT (qL (qB (qT (qT qZ))))))))) (by kernel_rfl) ?_
            refine wH_bool (decide (x322 < 0)) (fun hb324 => ?_) (fun hb324 => ?_)
            · have hm := condT hb324 hm
              rewrite [hb324]
              refine wH_take [10, 11, 12, 13, 14, 15, 16, 17, 18, 19, 20, 21, 22, 23, 24, 25, 26, 27, 28, 29, 30, 31, 32, 33, 34, 35, 36, 37, 38] [38, 37, 36, 35, 34, 33, 32, 31, 30, 29, 28, 27, 26, 25, 24, 23, 22, 21, 20, 19, 18, 17, 16, 15, 14, 13, 12, 11, 10, 9, 8, 7, 6, 5, 4, 3, 2, 1, 0] [(64, undef), (63, undef), (62, undef), (61, undef), (60, .bool (true)), (59, .bool (true)), (58, undef), (57, undef), (56, undef), (55, undef), (54, undef), (53, .bool (true)), (52, .bool (true)), (51, undef), (50, undef), (49, undef), (48, undef), (47, undef), (46, undef), (45, undef), (44, .bool (true)), (43, .bool (true)), (42, undef), (41, undef), (40, undef), (39, undef), (38, undef), (37, undef), (36, undef)] (by kernel_rfl) (qT (qT (qT (qB (qT (qL (qB (qT (qT qZ))))))))) (by kernel_rfl) ?_
              refine wH_done (by kernel_rfl) ?_
              refine eX_tail ?_
              refine wS_pure 2 [(66, .bool (true)), (65, undef)] (by kernel_rfl) ?_
              refine wS_end (by rfl) ?_
              refine eX_then ?_
              refine cW_prune [(0, .int .i64 (p0)), (5, .map (some b8)), (7, .slice A283 (x281).length cap284), (19, .slice A1 (l1).length cap1), (20, .int .i64 (((l1).length : Int))), (21, .int .i64 (x269)), (66, .bool (true))] (by kernel_rfl) (by kernel_rfl) (fun a325 => ?_)
              refine cW_cond_t (by kernel_rfl) ?_
              refine cW_seq ?_
              refine cW_region ?_
              refine wS_pure 1 [(4, .bool (false))] (by kernel_rfl) ?_
              refine wS_end (by rfl) ?_
              refine eX_then ?_
              refine cW_ret ?_
              refine eX_then_ret ?_
              refine eX_block_ret ?_
              refine eX_then_ret ?_
              have hq : (some (Ctl.out (Sum.inr false)) : Option (Ctl (Int × (List (Int × Bool))) (Sum (Unit) ((Bool))))) = some _ := hm
              replace hq := someE hq
              subst hq
              refine eX_outR hx279 (fun hr => ?_)
              subst hr
              refine eX_block_ret ?_
              refine eX_then_ret ?_
              refine eX_then_ret ?_
              have hq : (some false : Option ((Bool))) = some _ := hm276
              replace hq := someE hq
              subst hq
              refine eX_ret (vs := [.bool (false)]) [.tmp 4] (by rfl) ⟨by (show lkE _ _ _ = _); kernel_rfl, trivial⟩ ?_
              exact ⟨rfl, hB⟩
            · have hm := condF hb324 hm
              rewrite [hb324]
              refine wH_take [10] [10, 9, 8, 7, 6, 5, 4, 3, 2, 1, 0] [(36, .slice A283 (x281).length cap284)] (by kernel_rfl) (qT (qT (qT (qB (qT (qL (qB (qT (qT qZ))))))))) (by kernel_rfl) ?_
              obtain ⟨x326, hx327, hm⟩ := bindE hm
              refine wH_idx (i := 11) (d := 37) (T := 38) (A := A283) (n := (x281).length) (cap := cap284) (kd := .i64) (m := 0) (by kernel_rfl) (qT (qT (qT (qB (qT (qL (qB (qT (qT qZ))))))))) (by kernel_rfl) (by kernel_rfl) sl38 (F285.is hx327) ?_
              refine wH_load1 (i := 12) (d := 38) (T := 2) (ad := (elA A283 1 (0) 0)) (v := .int .i64 (x326)) (by kernel_rfl) (qT (qT (qT (qB (qT (qL (qB (qT (qT qZ))))))))) (by kernel_rfl) (by kernel_rfl) vt2 (fun W hW => Sl.cell (Z319.chg hW Dj.nil) hx327 0 (by rfl)) ?_
              refine wH_take [13] [13, 12, 11, 10, 9, 8, 7, 6, 5, 4, 3, 2, 1, 0] [(39, .slice A283 (x281).length cap284)] (by kernel_rfl) (qT (qT (qT (qB (qT (qL (qB (qT (qT qZ))))))))) (by kernel_rfl) ?_
              obtain ⟨x328, hx329, hm⟩ := bindE hm
              refine wH_idx (i := 14) (d := 40) (T := 38) (A := A283) (n := (x281).length) (cap := cap284) (kd := .i64) (m := 1) (by kernel_rfl) (qT (qT (qT (qB (qT (qL (qB (qT (qT qZ))))))))) (by kernel_rfl) (by kernel_rfl) sl38 (F285.is hx329) ?_
              refine wH_load1 (i := 15) (d := 41) (T := 2) (ad := (elA A283 1 (1) 0)) (v := .int .i64 (x328)) (by kernel_rfl) (qT (qT (qT (qB (qT (qL (qB (qT (qT qZ))))))))) (by kernel_rfl) (by kernel_rfl) vt2 (fun W hW => Sl.cell (Z319.chg hW Dj.nil) hx329 0 (by rfl)) ?_
              refine wH_take [16, 17, 18] [18, 17, 16, 15, 14, 13, 12, 11, 10, 9, 8, 7, 6, 5, 4, 3, 2, 1, 0] [(44, .bool (decide (x326 ≥ x328))), (43, .bool (decide (x326 ≥ x328))), (42, .bool (decide (x326 ≥ x328)))] (by kernel_rfl) (qT (qT (qT (qB (qT (qL (qB (qT (qT qZ))))))))) (by kernel_rfl) ?_
              refine wH_bool (decide (x326 ≥ x328)) (fun hb330 => ?_) (fun hb330 => ?_)
              · have hm := condT hb330 hm
                rewrite [hb330]
                refine wH_take [19, 20, 21, 22, 23, 24, 25, 26, 27, 28, 29, 30, 31, 32, 33, 34, 35, 36, 37, 38] [38, 37, 36, 35, 34, 33, 32, 31, 30, 29, 28, 27, 26, 25, 24, 23, 22, 21, 20, 19, 18, 17, 16, 15, 14, 13, 12, 11, 10, 9, 8, 7, 6, 5, 4, 3, 2, 1, 0] [(64, undef), (63, undef), (62, undef), (61, undef), (60, .bool (true)), (59, .bool (true)), (58, undef), (57, undef), (56, undef), (55, undef), (54, undef), (53, .bool (true)), (52, .bool (true)), (51, undef), (50, undef), (49, undef), (48, undef), (47, undef), (46, undef), (45, undef)] (by kernel_rfl) (qT (qT (qT (qB (qT (qL (qB (qT (qT qZ))))))))) (by kernel_rfl) ?_
                refine wH_done (by kernel_rfl) ?_
                refine eX_tail ?_
                refine wS_pure 2 [(66, .bool (true)), (65, undef)] (by kernel_rfl) ?_
                refine wS_end (by rfl) ?_
                refine eX_then ?_
                refine cW_prune [(0, .int .i64 (p0)), (5, .map (some b8)), (7, .slice A283 (x281).length cap284), (19, .slice A1 (l1).length cap1), (20, .int .i64 (((l1).length : Int))), (21, .int .i64 (x269)), (66, .bool (true))] (by kernel_rfl) (by kernel_rfl) (fun a331 => ?_)
                refine cW_cond_t (by kernel_rfl) ?_
                refine cW_seq ?_
                refine cW_region ?_
                refine wS_pure 1 [(4, .bool (false))] (by kernel_rfl) ?_
                refine wS_end (by rfl) ?_
                refine eX_then ?_
                refine cW_ret ?_
                refine eX_then_ret ?_
                refine eX_block_ret ?_
                refine eX_then_ret ?_
                have hq : (some (Ctl.out (Sum.inr false)) : Option (Ctl (Int × (List (Int × Bool))) (Sum (Unit) ((Bool))))) = some _ := hm
                replace hq := someE hq
                subst hq
                refine eX_outR hx279 (fun hr => ?_)
                subst hr
                refine eX_block_ret ?_
                refine eX_then_ret ?_
                refine eX_then_ret ?_
                have hq : (some false : Option ((Bool))) = some _ := hm276
                replace hq := someE hq
                subst hq
                refine eX_ret (vs := [.bool (false)]) [.tmp 4] (by rfl) ⟨by (show lkE _ _ _ = _); kernel_rfl, trivial⟩ ?_
                exact ⟨rfl, hB⟩
              · have hm := condF hb330 hm
                rewrite [hb330]
                refine wH_take [19] [19, 18, 17, 16, 15, 14, 13, 12, 11, 10, 9, 8, 7, 6, 5, 4, 3, 2, 1, 0] [(45, .slice A283 (x281).length cap284)] (by kernel_rfl) (qT (qT (qT (qB (qT (qL (qB (qT (qT qZ))))))))) (by kernel_rfl) ?_
                obtain ⟨x332, hx333, hm⟩ := bindE hm
                refine wH_idx (i := 20) (d := 46) (T := 38) (A := A283) (n := (x281).length) (cap := cap284) (kd := .i64) (m := 1) (by kernel_rfl) (qT (qT (qT (qB (qT (qL (qB (qT (qT qZ))))))))) (by kernel_rfl) (by kernel_rfl) sl38 (F285.is hx333) ?_
                refine wH_load1 (i := 21) (d := 47) (T := 2) (ad := (elA A283 1 (1) 0)) (v := .int .i64 (x332)) (by kernel_rfl) (qT (qT (qT (qB (qT (qL (qB (qT (qT qZ))))))))) (by kernel_rfl) (by kernel_rfl) vt2 (fun W hW => Sl.cell (Z319.chg hW Dj.nil) hx333 0 (by rfl)) ?_
                refine wH_take [22, 23, 24, 25, 26, 27] [27, 26, 25, 24, 23, 22, 21, 20, 19, 18, 17, 16, 15, 14, 13, 12, 11, 10, 9, 8, 7, 6, 5, 4, 3, 2, 1, 0] [(53, .bool (decide (x332 ≥ (wr (p0 + x269))))), (52, .bool (decide (x332 ≥ (wr (p0 + x269))))), (51, .bool (decide (x332 ≥ (wr (p0 + x269))))), (50, .int .i64 (wr (p0 + x269))), (49, .int .i64 (x269)), (48, .int .i64 (p0))] (by kernel_rfl) (qT (qT (qT (qB (qT (qL (qB (qT (qT qZ))))))))) (by kernel_rfl) ?_
                refine wH_bool (decide (x332 ≥ (wr (p0 + x269)))) (fun hb334 => ?_) (fun hb334 => ?_)
                · have hm := condT hb334 hm
                  rewrite [hb334]
                  refine wH_take [28, 29, 30, 31, 32, 33, 34, 35, 36, 37, 38] [38, 37, 36, 35, 34, 33, 32, 31, 30, 29, 28, 27, 26, 25, 24, 23, 22, 21, 20, 19, 18, 17, 16, 15, 14, 13, 12, 11, 10, 9, 8, 7, 6, 5, 4, 3, 2, 1, 0] [(64, undef), (63, undef), (62, undef), (61, undef), (60, .bool (true)), (59, .bool (true)), (58, undef), (57, undef), (56, undef), (55, undef), (54, undef)] (by kernel_rfl) (qT (qT (qT (qB (qT (qL (qB (qT (qT qZ))))))))) (by kernel_rfl) ?_
                  refine wH_done (by kernel_rfl) ?_
                  refine eX_tail ?_
                  refine wS_pure 2 [(66, .bool (true)), (65, undef)] (by kernel_rfl) ?_
                  refine wS_end (by rfl) ?_
                  refine eX_then ?_
                  refine cW_prune [(0, .int .i64 (p0)), (5, .map (some b8)), (7, .slice A283 (x281).length cap284), (19, .slice A1 (l1).length cap1), (20, .int .i64 (((l1).length : Int))), (21, .int .i64 (x269)), (66, .bool (true))] (by kernel_rfl) (by kernel_rfl) (fun a335 => ?_)
                  refine cW_cond_t (by kernel_rfl) ?_
                  refine cW_seq ?_
                  refine cW_region ?_
                  refine wS_pure 1 [(4, .bool (false))] (by kernel_rfl) ?_
                  refine wS_end (by rfl) ?_
                  refine eX_then ?_
                  refine cW_ret ?_
                  refine eX_then_ret ?_
                  refine eX_block_ret ?_
                  refine eX_then_ret ?_
                  have hq : (some (Ctl.out (Sum.inr false)) : Option (Ctl (Int × (List (Int × Bool))) (Sum (Unit) ((Bool))))) = some _ := hm
                  replace hq := someE hq
                  subst hq
                  refine eX_outR hx279 (fun hr => ?_)
                  subst hr
                  refine eX_block_ret ?_
                  refine eX_then_ret ?_
                  refine eX_then_ret ?_
                  have hq : (some false : Option ((Bool))) = some _ := hm276
                  replace hq := someE hq
                  subst hq
                  refine eX_ret (vs := [.bool (false)]) [.tmp 4] (by rfl) ⟨by (show lkE _ _ _ = _); kernel_rfl, trivial⟩ ?_
                  exact ⟨rfl, hB⟩
                · have hm := condF hb334 hm
                  rewrite [hb334]
                  refine wH_take [28, 29] [29, 28, 27, 26, 25, 24, 23, 22, 21, 20, 19, 18, 17, 16, 15, 14, 13, 12, 11, 10, 9, 8, 7, 6, 5, 4, 3, 2, 1, 0] [(55, .slice A283 (x281).length cap284), (54, .map (some b8))] (by kernel_rfl) (qT (qT (qT (qB (qT (qL (qB (qT (qT qZ))))))))) (by kernel_rfl) ?_
                  obtain ⟨x336, hx337, hm⟩ := bindE hm
                  refine wH_idx (i := 30) (d := 56) (T := 38) (A := A283) (n := (x281).length) (cap := cap284) (kd := .i64) (m := 0) (by kernel_rfl) (qT (qT (qT (qB (qT (qL (qB (qT (qT qZ))))))))) (by kernel_rfl) (by kernel_rfl) sl38 (F285.is hx337) ?_
                  refine wH_load1 (i := 31) (d := 57) (T := 2) (ad := (elA A283 1 (0) 0)) (v := .int .i64 (x336)) (by kernel_rfl) (qT (qT (qT (qB (qT (qL (qB (qT (qT qZ))))))))) (by kernel_rfl) (by kernel_rfl) vt2 (fun W hW => Sl.cell (Z319.chg hW Dj.nil) hx337 0 (by rfl)) ?_
                  obtain ⟨y338, hy339, hm⟩ := bindE hm
                  refine wH_look (i := 32) (d := 58) (T := 120) (by kernel_rfl) (qT (qT (qT (qB (qT (qL (qB (qT (qT qZ))))))))) (by kernel_rfl) (by kernel_rfl) mk120 mp120 (fun W hW => Z318.chg hW Dj.nil) hy339 ?_
                  refine wH_take [33, 34] [34, 33, 32, 31, 30, 29, 28, 27, 26, 25, 24, 23, 22, 21, 20, 19, 18, 17, 16, 15, 14, 13, 12, 11, 10, 9, 8, 7, 6, 5, 4, 3, 2, 1, 0] [(60, .bool (y338)), (59, .bool (y338))] (by kernel_rfl) (qT (qT (qT (qB (qT (qL (qB (qT (qT qZ))))))))) (by kernel_rfl) ?_
                  refine wH_bool y338 (fun hb340 => ?_) (fun hb340 => ?_)
                  · have hm := condT hb340 hm
                    rewrite [hb340]
                    refine wH_take [35, 36, 37, 38] [38, 37, 36, 35, 34, 33, 32, 31, 30, 29, 28, 27, 26, 25, 24, 23, 22, 21, 20, 19, 18, 17, 16, 15, 14, 13, 12, 11, 10, 9, 8, 7, 6, 5, 4, 3, 2, 1, 0] [(64, undef), (63, undef), (62, undef), (61, undef)] (by kernel_rfl) (qT (qT (qT (qB (qT (qL (qB (qT (qT qZ))))))))) (by kernel_rfl) ?_
                    refine wH_done (by kernel_rfl) ?_
                    refine eX_tail ?_
                    refine wS_pure 2 [(66, .bool (true)), (65, undef)] (by kernel_rfl) ?_
                    refine wS_end (by rfl) ?_
                    refine eX_then ?_
                    refine cW_prune [(0, .int .i64 (p0)), (5, .map (some b8)), (7, .slice A283 (x281).length cap284), (19, .slice A1 (l1).length cap1), (20, .int .i64 (((l1).length : Int))), (21, .int .i64 (x269)), (66, .bool (true))] (by kernel_rfl) (by kernel_rfl) (fun a341 => ?_)
                    refine cW_cond_t (by kernel_rfl) ?_
                    refine cW_seq ?_
                    refine cW_region ?_
                    refine wS_pure 1 [(4, .bool (false))] (by kernel_rfl) ?_
                    refine wS_end (by rfl) ?_
                    refine eX_then ?_
                    refine cW_ret ?_
                    refine eX_then_ret ?_
                    refine eX_block_ret ?_
                    refine eX_then_ret ?_
                    have hq : (some (Ctl.out (Sum.inr false)) : Option (Ctl (Int × (List (Int × Bool))) (Sum (Unit) ((Bool))))) = some _ := hm
                    replace hq := someE hq
                    subst hq
                    refine eX_outR hx279 (fun hr => ?_)
                    subst hr
                    refine eX_block_ret ?_
                    refine eX_then_ret ?_
                    refine eX_then_ret ?_
                    have hq : (some false : Option ((Bool))) = some _ := hm276
                    replace hq := someE hq
                    subst hq
                    refine eX_ret (vs := [.bool (false)]) [.tmp 4] (by rfl) ⟨by (show lkE _ _ _ = _); kernel_rfl, trivial⟩ ?_
                    exact ⟨rfl, hB⟩
                  · have hm := condF hb340 hm
                    rewrite [hb340]
                    refine wH_take [35, 36] [36, 35, 34, 33, 32, 31, 30, 29, 28, 27, 26, 25, 24, 23, 22, 21, 20, 19, 18, 17, 16, 15, 14, 13, 12, 11, 10, 9, 8, 7, 6, 5, 4, 3, 2, 1, 0] [(62, .slice A283 (x281).length cap284), (61, .map (some b8))] (by kernel_rfl) (qT (qT (qT (qB (qT (qL (qB (qT (qT qZ))))))))) (by kernel_rfl) ?_
                    obtain ⟨x342, hx343, hm⟩ := bindE hm
                    refine wH_idx (i := 37) (d := 63) (T := 38) (A := A283) (n := (x281).length) (cap := cap284) (kd := .i64) (m := 1) (by kernel_rfl) (qT (qT (qT (qB (qT (qL (qB (qT (qT qZ))))))))) (by kernel_rfl) (by kernel_rfl) sl38 (F285.is hx343) ?_
                    refine wH_load1 (i := 38) (d := 64) (T := 2) (ad := (elA A283 1 (1) 0)) (v := .int .i64 (x342)) (by kernel_rfl) (qT (qT (qT (qB (qT (qL (qB (qT (qT qZ))))))))) (by kernel_rfl) (by kernel_rfl) vt2 (fun W hW => Sl.cell (Z319.chg hW Dj.nil) hx343 0 (by rfl)) ?_
                    refine wH_done (by kernel_rfl) ?_
                    refine eX_tail ?_
                    obtain ⟨y344, hy345, hm⟩ := bindE hm
                    refine wS_look (d := 65) (T := 120) (by kernel_rfl) mk120 mp120 F273 hy345 ?_
                    refine wS_pure 1 [(66, .bool (y344))] (by kernel_rfl) ?_
                    refine wS_end (by rfl) ?_
                    refine eX_then ?_
                    refine cW_prune [(0, .int .i64 (p0)), (5, .map (some b8)), (7, .slice A283 (x281).length cap284), (19, .slice A1 (l1).length cap1), (20, .int .i64 (((l1).length : Int))), (21, .int .i64 (x269)), (66, .bool (y344))] (by kernel_rfl) (by kernel_rfl) (fun a346 => ?_)
                    refine cW_cond (t := y344) (by kernel_rfl) (fun hb347 => ?_) (fun hb347 => ?_)
                    · have hm := condT hb347 hm
                      refine cW_seq ?_
                      refine cW_region ?_
                      refine wS_pure 1 [(4, .bool (false))] (by kernel_rfl) ?_
                      refine wS_end (by rfl) ?_
                      refine eX_then ?_
                      refine cW_ret ?_
                      refine eX_then_ret ?_
                      refine eX_block_ret ?_
                      refine eX_then_ret ?_
                      have hq : (some (Ctl.out (Sum.inr false)) : Option (Ctl (Int × (List (Int × Bool))) (Sum (Unit) ((Bool))))) = some _ := hm
                      replace hq := someE hq
                      subst hq
                      refine eX_outR hx279 (fun hr => ?_)
                      subst hr
                      refine eX_block_ret ?_
                      refine eX_then_ret ?_
                      refine eX_then_ret ?_
                      have hq : (some false : Option ((Bool))) = some _ := hm276
                      replace hq := someE hq
                      subst hq
                      refine eX_ret (vs := [.bool (false)]) [.tmp 4] (by rfl) ⟨by (show lkE _ _ _ = _); kernel_rfl, trivial⟩ ?_
                      exact ⟨rfl, hB⟩
                    · have hm := condF hb347 hm
                      refine cW_skip ?_
                      refine eX_then ?_
                      refine cW_drawnTail [b8] 11 (by kernel_rfl) (by kernel_rfl) (fun w375 hc376 => ?_)
                      replace F272 := F272.chg hc376 Dj.nil
                      replace F273 := F273.chg hc376 Dj.nil
                      replace F285 := F285.chg hc376 Dj.nil
                      replace hB := hB.inS hc376 inNil
                      replace hZ := Nat.le_trans hZ hc376.size
                      have hS := Chg.refl [b8] w375
                      have Z377 := F272
                      have Z378 := F273
                      have Z379 := F285
                      refine wH_take [0, 1] [1, 0] [(68, .slice A283 (x281).length cap284), (67, .map (some b8))] (by kernel_rfl) (qT (qB (qT (qL (qB (qT (qT qZ))))))) (by kernel_rfl) ?_
                      obtain ⟨x380, hx381, hm⟩ := bindE hm
                      refine wH_idx (i := 2) (d := 69) (T := 38) (A := A283) (n := (x281).length) (cap := cap284) (kd := .i64) (m := 0) (by kernel_rfl) (qT (qB (qT (qL (qB (qT (qT qZ))))))) (by kernel_rfl) (by kernel_rfl) sl38 (F285.is hx381) ?_
                      refine wH_load1 (i := 3) (d := 70) (T := 2) (ad := (elA A283 1 (0) 0)) (v := .int .i64 (x380)) (by kernel_rfl) (qT (qB (qT (qL (qB (qT (qT qZ))))))) (by kernel_rfl) (by kernel_rfl) vt2 (fun W hW => Sl.cell (Z379.chg hW (Dj.of L1 G10)) hx381 0 (by rfl)) ?_
                      refine wH_take [4, 5] [5, 4, 3, 2, 1, 0] [(72, .slice A283 (x281).length cap284), (71, .map (some b8))] (by kernel_rfl) (qT (qB (qT (qL (qB (qT (qT qZ))))))) (by kernel_rfl) ?_
                      obtain ⟨x382, hx383, hm⟩ := bindE hm
                      refine wH_idx (i := 6) (d := 73) (T := 38) (A := A283) (n := (x281).length) (cap := cap284) (kd := .i64) (m := 1) (by kernel_rfl) (qT (qB (qT (qL (qB (qT (qT qZ))))))) (by kernel_rfl) (by kernel_rfl) sl38 (F285.is hx383) ?_
                      refine wH_load1 (i := 7) (d := 74) (T := 2) (ad := (elA A283 1 (1) 0)) (v := .int .i64 (x382)) (by kernel_rfl) (qT (qB (qT (qL (qB (qT (qT qZ))))))) (by kernel_rfl) (by kernel_rfl) vt2 (fun W hW => Sl.cell (Z379.chg hW (Dj.of L1 G10)) hx383 0 (by rfl)) ?_
                      refine wH_all [8] (by rfl) (by kernel_rfl) (by simp) ⟨⟨by kernel_rfl, ?_⟩, trivial⟩
                      obtain ⟨_, hk384, hm⟩ := bindE hm
                      refine wS_entry (k := x380) (d := 75) (T := 120) (by kernel_rfl) mk120 mp120 F273 (mpE hk384) ?_
                      intro v385 s386 w387 F388 hc389
                      replace F272 := F272.chg hc389 (Dj.of L1 G10)
                      replace F285 := F285.chg hc389 (Dj.of L1 G10)
                      replace hB := hB.inS hc389 (inLow G10)
                      have hSz := hS
                      replace hS := hS.trans hc389
                      replace hZ := Nat.le_trans hZ hc389.size
                      clear F273
                      refine wS_end (by kernel_rfl) ?_
                      refine eX_KH hS ?_
                      refine wH_take [9] [9, 8, 7, 6, 5, 4, 3, 2, 1, 0] [(76, .int .i64 (s386 : Nat))] (by kernel_rfl) (qT (qB (qT (qL (qB (qT (qT qZ))))))) (by kernel_rfl) ?_
                      refine wH_all [10] (by rfl) (by kernel_rfl) (by simp) ⟨⟨by kernel_rfl, ?_⟩, trivial⟩
                      refine wS_eStore (x := true) (T := 120) (by kernel_rfl) (by rfl) mk120 F388 ?_
                      intro w390 F391 hc392
                      replace F272 := F272.chg hc392 (Dj.of L1 G10)
                      replace F285 := F285.chg hc392 (Dj.of L1 G10)
                      replace hB := hB.inS hc392 (inLow G10)
                      have hSz := hS
                      replace hS := hS.trans hc392
                      replace hZ := Nat.le_trans hZ hc392.size
                      clear F388
                      refine wS_end (by kernel_rfl) ?_
                      refine eX_KH hS ?_
                      refine wH_done (by kernel_rfl) ?_
                      refine eX_tail ?_
                      obtain ⟨_, hk393, hm⟩ := bindE hm
                      refine wS_entry (k := x382) (d := 77) (T := 120) (by kernel_rfl) mk120 mp120 F391 (mpE hk393) ?_
                      intro v394 s395 w396 F397 hc398
                      replace F272 := F272.chg hc398 (Dj.of L1 G10)
                      replace F285 := F285.chg hc398 (Dj.of L1 G10)
                      replace hB := hB.inS hc398 (inLow G10)
                      replace hZ := Nat.le_trans hZ hc398.size
                      clear F391
                      refine wS_pure 1 [(78, .int .i64 (s395 : Nat))] (by kernel_rfl) ?_
                      refine wS_eStore (x := true) (T := 120) (by kernel_rfl) (by rfl) mk120 F397 ?_
                      intro w399 F400 hc401
                      replace F272 := F272.chg hc401 (Dj.of L1 G10)
                      replace F285 := F285.chg hc401 (Dj.of L1 G10)
                      replace hB := hB.inS hc401 (inLow G10)
                      replace hZ := Nat.le_trans hZ hc401.size
                      clear F397
                      refine wS_end (by rfl) ?_
                      refine eX_block ?_
                      refine eX_then ?_
                      refine cW_region ?_
                      refine wS_pure 2 [(21, .int .i64 (wr (x269 + 1))), (79, .int .i64 (wr (x269 + 1)))] (by kernel_rfl) ?_
                      refine wS_end (by rfl) ?_
                      have hq : (some (Ctl.next ((wr (x269 + 1), mset (ment false (mset (ment false l270 x380) x380 true) x382) x382 true))) : Option (Ctl (Int × (List (Int × Bool))) (Sum (Unit) ((Bool))))) = some _ := hm
                      replace hq := someE hq
                      subst hq
                      exact eX_next hx279 (fun hst => ⟨wr (x269 + 1), mset (ment false (mset (ment false l270 x380) x380 true) x382) x382 true, rfl, Fr.of hst (by kernel_rfl), F272, F400, hB, hZ⟩)
        · have hm := condF hb280 hm
          refine cW_exit ?_
          refine eX_then_exit ?_
          have hq : (some (Ctl.out (Sum.inl (()))) : Option (Ctl (Int × (List (Int × Bool))) (Sum (Unit) ((Bool))))) = some _ := hm
          replace hq := someE hq
          subst hq
          refine eX_outX hx279 (fun hr402 => ?_)
          replace hr402 := hr402.symm
          subst hr402
          refine eX_block_hit ?_
          exact eX_J (fun hst => ⟨rfl, Fr.of hst (by kernel_rfl), hB, hZ⟩)
      · rintro a' w266 ⟨hJ, hF267, hB, hZ⟩
        subst hJ
        refine Fr.goX hF267 (by kernel_rfl) ?_
        refine eX_then ?_
        refine cW_seq ?_
        refine cW_region ?_
        refine wS_pure 1 [(4, .bool (true))] (by kernel_rfl) ?_
        refine wS_end (by rfl) ?_
        refine eX_then ?_
        refine cW_ret ?_
        have hq : (some true : Option ((Bool))) = some _ := hm
        replace hq := someE hq
        subst hq
        refine eX_ret (vs := [.bool (true)]) [.tmp 4] (by rfl) ⟨by (show lkE _ _ _ = _); kernel_rfl, trivial⟩ ?_
        exact ⟨rfl, hB⟩

set_option maxRecDepth 100000 in
/-- impl.IsPoint -/
theorem c_impl_IsPoint {w0 : World} {p0_0 : Int} {p0_1 : Int} {r : (Bool)} (hm : m_impl_IsPoint p0_0 p0_1 = some r)  :
    Calls Try.prog 158 #[.agg #[.int .i64 (p0_0), .int .i64 (p0_1)]] w0 fun e w' => e = .returned (.bool (r)) ∧ Chg [] w0 w' := by
  have hB : Chg [] w0 w0 := Chg.refl _ _
  have hZ := Nat.le_refl w0.heap.size
  unfold m_impl_IsPoint at hm
  refine enterE (N := 11) Try.func158 (by rfl) Try.ntmps158 (by simp) [(0, .agg #[.int .i64 (p0_0), .int .i64 (p0_1)])] (by rfl) (by kernel_rfl) (fun a => ?_)
  refine cW_seq ?_
  refine cW_region ?_
  refine wS_box (d := 1) (T := 116) (x := .agg #[.int .i64 (p0_0), .int .i64 (p0_1)]) (by kernel_rfl) ?_
  intro b1 w2 G3 F4 hc5
  replace F4 : Cl w2 b1 116 [.int .i64 (p0_0), .int .i64 (p0_1)] := F4
  replace hB := hB.inS hc5 inNil
  replace G3 := Nat.le_trans hZ G3
  replace hZ := Nat.le_trans hZ hc5.size
  refine wS_pure 1 [(2, .bool (false))] (by kernel_rfl) ?_
  refine wS_end (by rfl) ?_
  refine eX_then ?_
  refine cW_seq ?_
  refine cW_region ?_
  refine wS_pure 1 [(3, .pointer (some ⟨b1, 0, none⟩))] (by kernel_rfl) ?_
  refine wS_load1 (d := 4) (T := 2) (ad := ⟨b1, 0, none⟩) (v := .int .i64 (p0_0)) (by kernel_rfl) vt2 ((F4).cell 0) ?_
  obtain ⟨y7, hy8, hm⟩ := bindE hm
  refine wS_calls (d := 5) (f := 77) (vs := [.int .i64 (p0_0), .int .i64 (0), .int .i64 (99)]) (by kernel_rfl) ent77 (c_impl_in hy8) ?_
  rintro _ w9 ⟨rfl, hc10⟩
  replace F4 := F4.chg hc10 notNil
  replace hB := hB.inS hc10 inNil
  replace hZ := Nat.le_trans hZ hc10.size
  refine ⟨.bool (y7), rfl, ?_⟩
  refine wS_pure 1 [(6, .bool (y7))] (by kernel_rfl) ?_
  refine wS_bool y7 (fun hb11 => ?_) (fun hb11 => ?_)
  · have hm := condT hb11 hm
    rewrite [hb11]
    refine wS_pure 1 [(7, .pointer (some ⟨b1, 1, none⟩))] (by kernel_rfl) ?_
    refine wS_load1 (d := 8) (T := 2) (ad := ⟨b1, 1, none⟩) (v := .int .i64 (p0_1)) (by kernel_rfl) vt2 ((F4).cell 1) ?_
    obtain ⟨y12, hy13, hm⟩ := bindE hm
    refine wS_calls (d := 9) (f := 77) (vs := [.int .i64 (p0_1), .int .i64 (0), .int .i64 (99)]) (by kernel_rfl) ent77 (c_impl_in hy13) ?_
    rintro _ w14 ⟨rfl, hc15⟩
    replace F4 := F4.chg hc15 notNil
    replace hB := hB.inS hc15 inNil
    replace hZ := Nat.le_trans hZ hc15.size
    refine ⟨.bool (y12), rfl, ?_⟩
    refine wS_pure 2 [(2, .bool (y12)), (10, .bool (y12))] (by kernel_rfl) ?_
    refine wS_end (by rfl) ?_
    refine eX_then ?_
    refine cW_ret ?_
    have hq : (some y12 : Option ((Bool))) = some _ := hm
    replace hq := someE hq
    subst hq
    refine eX_ret (vs := [.bool (y12)]) [.tmp 2] (by rfl) ⟨by (show lkE _ _ _ = _); kernel_rfl, trivial⟩ ?_
    exact ⟨rfl, hB⟩
  · have hm := condF hb11 hm
    rewrite [hb11]
    refine wS_pure 5 [(2, .bool (false)), (10, .bool (false)), (9, undef), (8, undef), (7, undef)] (by kernel_rfl) ?_
    refine wS_end (by rfl) ?_
    refine eX_then ?_
    refine cW_ret ?_
    have hq : (some false : Option ((Bool))) = some _ := hm
    replace hq := someE hq
    subst hq
    refine eX_ret (vs := [.bool (false)]) [.tmp 2] (by rfl) ⟨by (show lkE _ _ _ = _); kernel_rfl, trivial⟩ ?_
    exact ⟨rfl, hB⟩

set_option maxRecDepth 100000 in
/-- impl.noPoint -/
theorem c_impl_noPoint {w0 : World} {p0_0 : Int} {p0_1 : Int} {r : (Bool)} (hm : m_impl_noPoint p0_0 p0_1 = some r)  :
    Calls Try.prog 137 #[.agg #[.int .i64 (p0_0), .int .i64 (p0_1)]] w0 fun e w' => e = .returned (.bool (r)) ∧ Chg [] w0 w' := by
  have hB : Chg [] w0 w0 := Chg.refl _ _
  have hZ := Nat.le_refl w0.heap.size
  unfold m_impl_noPoint at hm
  refine enterE (N := 6) Try.func137 (by rfl) Try.ntmps137 (by simp) [(0, .agg #[.int .i64 (p0_0), .int .i64 (p0_1)])] (by rfl) (by kernel_rfl) (fun a => ?_)
  refine cW_seq ?_
  refine cW_region ?_
  refine wS_box (d := 1) (T := 116) (x := .agg #[.int .i64 (p0_0), .int .i64 (p0_1)]) (by kernel_rfl) ?_
  intro b1 w2 G3 F4 hc5
  replace F4 : Cl w2 b1 116 [.int .i64 (p0_0), .int .i64 (p0_1)] := F4
  replace hB := hB.inS hc5 inNil
  replace G3 := Nat.le_trans hZ G3
  replace hZ := Nat.le_trans hZ hc5.size
  refine wS_pure 1 [(2, .bool (false))] (by kernel_rfl) ?_
  refine wS_end (by rfl) ?_
  refine eX_then ?_
  refine cW_seq ?_
  refine cW_region ?_
  refine wS_loadA (d := 3) (T := 116) (ad := ⟨b1, 0, none⟩) (vs := [.int .i64 (p0_0), .int .i64 (p0_1)]) (by kernel_rfl) vt116 (fun i u hu => box_cells F4 0 hu (by rfl)) ?_
  obtain ⟨y7, hy8, hm⟩ := bindE hm
  refine wS_calls (d := 4) (f := 158) (vs := [.agg #[.int .i64 (p0_0), .int .i64 (p0_1)]]) (by kernel_rfl) ent158 (c_impl_IsPoint hy8) ?_
  rintro _ w9 ⟨rfl, hc10⟩
  replace F4 := F4.chg hc10 notNil
  replace hB := hB.inS hc10 inNil
  replace hZ := Nat.le_trans hZ hc10.size
  refine ⟨.bool (y7), rfl, ?_⟩
  refine wS_pure 2 [(2, .bool (!y7)), (5, .bool (!y7))] (by kernel_rfl) ?_
  refine wS_end (by rfl) ?_
  refine eX_then ?_
  refine cW_ret ?_
  have hq : (some (!y7) : Option ((Bool))) = some _ := hm
  replace hq := someE hq
  subst hq
  refine eX_ret (vs := [.bool (!y7)]) [.tmp 2] (by rfl) ⟨by (show lkE _ _ _ = _); kernel_rfl, trivial⟩ ?_
  exact ⟨rfl, hB⟩

set_option maxRecDepth 100000 in
/-- impl.Point] -/
theorem c_slices_IndexFunc_impl_Point_impl_Point_impl_noPoint {w0 : World} {l0 : List (Int × Int)} {A0 : Option Addr} {cap0 : Nat} {fp0 : List Nat} {r : (Int)} (hm : m_slices_IndexFunc_impl_Point_impl_Point_impl_noPoint l0 = some r) (F0 : Sl 2 encII w0 fp0 A0 l0) :
    Calls Try.prog 157 #[.slice A0 (l0).length cap0, .func (.func 137) #[] #[]] w0 fun e w' => e = .returned (.int .i64 (r)) ∧ Chg [] w0 w' := by
  have L0 := F0.low
  have hB : Chg [] w0 w0 := Chg.refl _ _
  have hZ := Nat.le_refl w0.heap.size
  unfold m_slices_IndexFunc_impl_Point_impl_Point_impl_noPoint at hm
  refine enterE (N := 19) Try.func157 (by rfl) Try.ntmps157 (by simp) [(0, .slice A0 (l0).length cap0), (1, .func (.func 137) #[] #[])] (by rfl) (by kernel_rfl) (fun a => ?_)
  refine cW_seq ?_
  refine cW_region ?_
  refine wS_pure 1 [(4, .int .i64 (0))] (by kernel_rfl) ?_
  refine wS_end (by rfl) ?_
  refine eX_then ?_
  refine cW_seq ?_
  refine cW_seq ?_
  refine cW_region ?_
  refine wS_pure 3 [(8, .int .i64 (0)), (7, .int .i64 (((l0).length : Int))), (6, .slice A0 (l0).length cap0)] (by kernel_rfl) ?_
  refine wS_end (by rfl) ?_
  refine eX_then ?_
  obtain ⟨r29, hr30, hm⟩ := bindE hm
  have hm31 := hm
  refine cW_cut (fun a' w' => Sum.inl (()) = r29 ∧ Fr 19 [] a' ∧ Chg [] w0 w' ∧ w0.heap.size ≤ w'.heap.size) ?_ ?_
  · refine cW_block ?_
    refine cW_loop _ (fun (s32 : Int) a' w' => ∃ x26 : Int, x26 = s32 ∧ Fr 19 [(0, .slice A0 (l0).length cap0), (1, .func (.func 137) #[] #[]), (7, .int .i64 (((l0).length : Int))), (8, .int .i64 (x26))] a' ∧ Sl 2 encII w' fp0 A0 l0 ∧ Chg [] w0 w' ∧ w0.heap.size ≤ w'.heap.size) hr30 (fun hst => ⟨0, rfl, Fr.of hst (by kernel_rfl), F0, hB, hZ⟩) ?_
    rintro _ c33 a' w25 ⟨x26, rfl, hF27, F28, hB, hZ⟩ hx34
    refine Fr.goOn hF27 (by kernel_rfl) ?_
    have hm := hx34
    unfold m_slices_IndexFunc_impl_Point_impl_Point_impl_noPoint_s1 at hm
    refine cW_seq ?_
    refine cW_region ?_
    refine wS_pure 1 [(9, .bool (decide (x26 < (((l0).length : Int)))))] (by kernel_rfl) ?_
    refine wS_end (by rfl) ?_
    refine eX_then ?_
    refine cW_seq ?_
    refine cW_cond (t := decide (x26 < (((l0).length : Int)))) (by kernel_rfl) (fun hb35 => ?_) (fun hb35 => ?_)
    · have hm := condT hb35 hm
      refine cW_skip ?_
      refine eX_then ?_
      refine cW_seq ?_
      refine cW_block ?_
      refine cW_seq ?_
      refine cW_region ?_
      refine wS_pure 2 [(5, .int .i64 (x26)), (10, .int .i64 (x26))] (by kernel_rfl) ?_
      refine wS_end (by rfl) ?_
      refine eX_then ?_
      refine cW_seq ?_
      refine cW_region ?_
      refine wS_pure 3 [(13, .int .i64 (x26)), (12, .slice A0 (l0).length cap0), (11, .func (.func 137) #[] #[])] (by kernel_rfl) ?_
      obtain ⟨x36, hx37, hm⟩ := bindE hm
      refine wS_idx (d := 14) (T := 58) (A := A0) (n := (l0).length) (cap := cap0) (kd := .i64) (m := x26) (by kernel_rfl) sl58 (F28.is hx37) ?_
      refine wS_loadA (d := 15) (T := 116) (ad := (elA A0 2 (x26) 0)) (vs := [.int .i64 (x36.1), .int .i64 (x36.2)]) (by kernel_rfl) vt116 (fun i u hu => Sl.cells_at F28 hx37 0 hu (by rfl)) ?_
      obtain ⟨y38, hy39, hm⟩ := bindE hm
      refine wS_calls (d := 16) (f := 137) (vs := [.agg #[.int .i64 (x36.1), .int .i64 (x36.2)]]) (by kernel_rfl) ent137 (c_impl_noPoint hy39) ?_
      rintro _ w40 ⟨rfl, hc41⟩
      replace F28 := F28.chg hc41 Dj.nil
      replace hB := hB.inS hc41 inNil
      replace hZ := Nat.le_trans hZ hc41.size
      refine ⟨.bool (y38), rfl, ?_⟩
      refine wS_end (by rfl) ?_
      refine eX_then ?_
      refine cW_cond (t := y38) (by kernel_rfl) (fun hb42 => ?_) (fun hb42 => ?_)
      · have hm := condT hb42 hm
        refine cW_seq ?_
        refine cW_region ?_
        refine wS_pure 2 [(4, .int .i64 (x26)), (17, .int .i64 (x26))] (by kernel_rfl) ?_
        refine wS_end (by rfl) ?_
        refine eX_then ?_
        refine cW_ret ?_
        refine eX_block_ret ?_
        refine eX_then_ret ?_
        have hq : (some (Ctl.out (Sum.inr x26)) : Option (Ctl (Int) (Sum (Unit) ((Int))))) = some _ := hm
        replace hq := someE hq
        subst hq
        refine eX_outR hx34 (fun hr => ?_)
        subst hr
        refine eX_block_ret ?_
        refine eX_then_ret ?_
        refine eX_then_ret ?_
        have hq : (some x26 : Option ((Int))) = some _ := hm31
        replace hq := someE hq
        subst hq
        refine eX_ret (vs := [.int .i64 (x26)]) [.tmp 4] (by rfl) ⟨by (show lkE _ _ _ = _); kernel_rfl, trivial⟩ ?_
        exact ⟨rfl, hB⟩
      · have hm := condF hb42 hm
        refine cW_skip ?_
        refine eX_block ?_
        refine eX_then ?_
        refine cW_region ?_
        refine wS_pure 2 [(8, .int .i64 (wr (x26 + 1))), (18, .int .i64 (wr (x26 + 1)))] (by kernel_rfl) ?_
        refine wS_end (by rfl) ?_
        have hq : (some (Ctl.next (wr (x26 + 1))) : Option (Ctl (Int) (Sum (Unit) ((Int))))) = some _ := hm
        replace hq := someE hq
        subst hq
        exact eX_next hx34 (fun hst => ⟨wr (x26 + 1), rfl, Fr.of hst (by kernel_rfl), F28, hB, hZ⟩)
    · have hm := condF hb35 hm
      refine cW_exit ?_
      refine eX_then_exit ?_
      have hq : (some (Ctl.out (Sum.inl (()))) : Option (Ctl (Int) (Sum (Unit) ((Int))))) = some _ := hm
      replace hq := someE hq
      subst hq
      refine eX_outX hx34 (fun hr43 => ?_)
      replace hr43 := hr43.symm
      subst hr43
      refine eX_block_hit ?_
      exact eX_J (fun hst => ⟨rfl, Fr.of hst (by kernel_rfl), hB, hZ⟩)
  · rintro a' w23 ⟨hJ, hF24, hB, hZ⟩
    subst hJ
    refine Fr.goX hF24 (by kernel_rfl) ?_
    refine eX_then ?_
    refine cW_seq ?_
    refine cW_region ?_
    refine wS_pure 1 [(4, .int .i64 ((-1)))] (by kernel_rfl) ?_
    refine wS_end (by rfl) ?_
    refine eX_then ?_
    refine cW_ret ?_
    have hq : (some ((-1)) : Option ((Int))) = some _ := hm
    replace hq := someE hq
    subst hq
    refine eX_ret (vs := [.int .i64 ((-1))]) [.tmp 4] (by rfl) ⟨by (show lkE _ _ _ = _); kernel_rfl, trivial⟩ ?_
    exact ⟨rfl, hB⟩

set_option maxRecDepth 100000 in
/-- impl.Point] -/
theorem c_slices_ContainsFunc_impl_Point_impl_Point_impl_noPoint {w0 : World} {l0 : List (Int × Int)} {A0 : Option Addr} {cap0 : Nat} {fp0 : List Nat} {r : (Bool)} (hm : m_slices_ContainsFunc_impl_Point_impl_Point_impl_noPoint l0 = some r) (F0 : Sl 2 encII w0 fp0 A0 l0) :
    Calls Try.prog 136 #[.slice A0 (l0).length cap0, .func (.func 137) #[] #[]] w0 fun e w' => e = .returned (.bool (r)) ∧ Chg [] w0 w' := by
  have L0 := F0.low
  have hB : Chg [] w0 w0 := Chg.refl _ _
  have hZ := Nat.le_refl w0.heap.size
  unfold m_slices_ContainsFunc_impl_Point_impl_Point_impl_noPoint at hm
  refine enterE (N := 9) Try.func136 (by rfl) Try.ntmps136 (by simp) [(0, .slice A0 (l0).length cap0), (1, .func (.func 137) #[] #[])] (by rfl) (by kernel_rfl) (fun a => ?_)
  refine cW_seq ?_
  refine cW_region ?_
  refine wS_pure 1 [(4, .bool (false))] (by kernel_rfl) ?_
  refine wS_end (by rfl) ?_
  refine eX_then ?_
  refine cW_seq ?_
  refine cW_region ?_
  refine wS_pure 2 [(6, .func (.func 137) #[] #[]), (5, .slice A0 (l0).length cap0)] (by kernel_rfl) ?_
  obtain ⟨y2, hy3, hm⟩ := bindE hm
  refine wS_calls (d := 7) (f := 157) (vs := [.slice A0 (l0).length cap0, .func (.func 137) #[] #[]]) (by kernel_rfl) ent157 (c_slices_IndexFunc_impl_Point_impl_Point_impl_noPoint hy3 F0) ?_
  rintro _ w4 ⟨rfl, hc5⟩
  replace F0 := F0.chg hc5 Dj.nil
  replace hB := hB.inS hc5 inNil
  replace hZ := Nat.le_trans hZ hc5.size
  refine ⟨.int .i64 (y2), rfl, ?_⟩
  refine wS_pure 2 [(4, .bool (decide (y2 ≥ 0))), (8, .bool (decide (y2 ≥ 0)))] (by kernel_rfl) ?_
  refine wS_end (by rfl) ?_
  refine eX_then ?_
  refine cW_ret ?_
  have hq : (some (decide (y2 ≥ 0)) : Option ((Bool))) = some _ := hm
  replace hq := someE hq
  subst hq
  refine eX_ret (vs := [.bool (decide (y2 ≥ 0))]) [.tmp 4] (by rfl) ⟨by (show lkE _ _ _ = _); kernel_rfl, trivial⟩ ?_
  exact ⟨rfl, hB⟩

set_option maxRecDepth 100000 in
/-- impl.clockPins -/
theorem c_impl_clockPins {w0 : World} {l0 : List (Int × Int)} {A0 : Option Addr} {cap0 : Nat} {fp0 : List Nat} {r : (Bool)} (hm : m_impl_clockPins l0 = some r) (F0 : Sl 2 encII w0 fp0 A0 l0) :
    Calls Try.prog 101 #[.slice A0 (l0).length cap0] w0 fun e w' => e = .returned (.bool (r)) ∧ Chg [] w0 w' := by
  have L0 := F0.low
  have hB : Chg [] w0 w0 := Chg.refl _ _
  have hZ := Nat.le_refl w0.heap.size
  unfold m_impl_clockPins at hm
  refine enterE (N := 11) Try.func101 (by rfl) Try.ntmps101 (by simp) [(0, .slice A0 (l0).length cap0)] (by rfl) (by kernel_rfl) (fun a => ?_)
  refine cW_seq ?_
  refine cW_region ?_
  refine wS_pure 1 [(2, .bool (false))] (by kernel_rfl) ?_
  refine wS_end (by rfl) ?_
  refine eX_then ?_
  refine cW_seq ?_
  refine cW_region ?_
  refine wS_pure 2 [(4, .int .i64 (((l0).length : Int))), (3, .slice A0 (l0).length cap0)] (by kernel_rfl) ?_
  obtain ⟨y2, hy3, hm⟩ := bindE hm
  refine wS_calls (d := 5) (f := 77) (vs := [.int .i64 (((l0).length : Int)), .int .i64 (2), .int .i64 (12)]) (by kernel_rfl) ent77 (c_impl_in hy3) ?_
  rintro _ w4 ⟨rfl, hc5⟩
  replace F0 := F0.chg hc5 Dj.nil
  replace hB := hB.inS hc5 inNil
  replace hZ := Nat.le_trans hZ hc5.size
  refine ⟨.bool (y2), rfl, ?_⟩
  refine wS_pure 1 [(6, .bool (y2))] (by kernel_rfl) ?_
  refine wS_bool y2 (fun hb6 => ?_) (fun hb6 => ?_)
  · have hm := condT hb6 hm
    rewrite [hb6]
    refine wS_pure 1 [(7, .slice A0 (l0).length cap0)] (by kernel_rfl) ?_
    obtain ⟨y7, hy8, hm⟩ := bindE hm
    refine wS_calls (d := 8) (f := 136) (vs := [.slice A0 (l0).length cap0, .func (.func 137) #[] #[]]) (by kernel_rfl) ent136 (c_slices_ContainsFunc_impl_Point_impl_Point_impl_noPoint hy8 F0) ?_
    rintro _ w9 ⟨rfl, hc10⟩
    replace F0 := F0.chg hc10 Dj.nil
    replace hB := hB.inS hc10 inNil
    replace hZ := Nat.le_trans hZ hc10.size
    refine ⟨.bool (y7), rfl, ?_⟩
    refine wS_pure 3 [(2, .bool (!y7)), (10, .bool (!y7)), (9, .bool (!y7))] (by kernel_rfl) ?_
    refine wS_end (by rfl) ?_
    refine eX_then ?_
    refine cW_ret ?_
    have hq : (some (!y7) : Option ((Bool))) = some _ := hm
    replace hq := someE hq
    subst hq
    refine eX_ret (vs := [.bool (!y7)]) [.tmp 2] (by rfl) ⟨by (show lkE _ _ _ = _); kernel_rfl, trivial⟩ ?_
    exact ⟨rfl, hB⟩
  · have hm := condF hb6 hm
    rewrite [hb6]
    refine wS_pure 5 [(2, .bool (false)), (10, .bool (false)), (9, undef), (8, undef), (7, undef)] (by kernel_rfl) ?_
    refine wS_end (by rfl) ?_
    refine eX_then ?_
    refine cW_ret ?_
    have hq : (some false : Option ((Bool))) = some _ := hm
    replace hq := someE hq
    subst hq
    refine eX_ret (vs := [.bool (false)]) [.tmp 2] (by rfl) ⟨by (show lkE _ _ _ = _); kernel_rfl, trivial⟩ ?_
    exact ⟨rfl, hB⟩

set_option maxRecDepth 100000 in
/-- impl.leaf -/
theorem c_impl_leaf {w0 : World} {p0_0 : Int} {p0_1 : Int} {r : (Int × Int × Int × Int)} (hm : m_impl_leaf p0_0 p0_1 = some r)  :
    Calls Try.prog 102 #[.agg #[.int .i64 (p0_0), .int .i64 (p0_1)]] w0 fun e w' => e = .returned (.agg #[.int .i64 (r.1), .int .i64 (r.2.1), .int .i64 (r.2.2.1), .int .i64 (r.2.2.2)]) ∧ Chg [] w0 w' := by
  have hB : Chg [] w0 w0 := Chg.refl _ _
  have hZ := Nat.le_refl w0.heap.size
  unfold m_impl_leaf at hm
  refine enterE (N := 22) Try.func102 (by rfl) Try.ntmps102 (by simp) [(0, .agg #[.int .i64 (p0_0), .int .i64 (p0_1)])] (by rfl) (by kernel_rfl) (fun a => ?_)
  refine cW_seq ?_
  refine cW_region ?_
  refine wS_box (d := 1) (T := 116) (x := .agg #[.int .i64 (p0_0), .int .i64 (p0_1)]) (by kernel_rfl) ?_
  intro b1 w2 G3 F4 hc5
  replace F4 : Cl w2 b1 116 [.int .i64 (p0_0), .int .i64 (p0_1)] := F4
  replace hB := hB.inS hc5 inNil
  replace G3 := Nat.le_trans hZ G3
  replace hZ := Nat.le_trans hZ hc5.size
  refine wS_alloc (d := 2) (T := 25) (z := .agg #[.int .i64 (0), .int .i64 (0), .int .i64 (0), .int .i64 (0)]) (by kernel_rfl) (by kernel_rfl) ?_
  intro b7 w8 G9 F10 hc11
  replace F10 : Cl w8 b7 25 [.int .i64 (0), .int .i64 (0), .int .i64 (0), .int .i64 (0)] := F10
  have D13 : Dj [b1] [b7] := Dj.of (lt1 F4.lt) (low1 G9)
  replace F4 := F4.chg hc11 notNil
  replace hB := hB.inS hc11 inNil
  replace G9 := Nat.le_trans hZ G9
  replace hZ := Nat.le_trans hZ hc11.size
  refine wS_end (by rfl) ?_
  refine eX_then ?_
  refine cW_seq ?_
  refine cW_drawnTail [] 13 (by kernel_rfl) (by kernel_rfl) (fun w18 hc19 => ?_)
  replace F4 := F4.chg hc19 notNil
  replace F10 := F10.chg hc19 notNil
  replace hB := hB.inS hc19 inNil
  replace hZ := Nat.le_trans hZ hc19.size
  have hS := Chg.refl [] w18
  have Z20 := F4
  have Z21 := F10
  refine wH_take [0] [0] [(5, .pointer (some ⟨b1, 0, none⟩))] (by kernel_rfl) (qT (qT qZ)) (by kernel_rfl) ?_
  refine wH_load1 (i := 1) (d := 6) (T := 2) (ad := ⟨b1, 0, none⟩) (v := .int .i64 (p0_0)) (by kernel_rfl) (qT (qT qZ)) (by kernel_rfl) (by kernel_rfl) vt2 (fun W hW => (Z20.chg hW notNil).cell 0) ?_
  refine wH_take [2] [2, 1, 0] [(7, .pointer (some ⟨b1, 1, none⟩))] (by kernel_rfl) (qT (qT qZ)) (by kernel_rfl) ?_
  refine wH_load1 (i := 3) (d := 8) (T := 2) (ad := ⟨b1, 1, none⟩) (v := .int .i64 (p0_1)) (by kernel_rfl) (qT (qT qZ)) (by kernel_rfl) (by kernel_rfl) vt2 (fun W hW => (Z20.chg hW notNil).cell 1) ?_
  refine wH_take [4, 5, 6] [6, 5, 4, 3, 2, 1, 0] [(11, .pointer (some ⟨b1, 0, none⟩)), (10, .int .i64 (wr ((wr (p0_0 + p0_1)) * 4096))), (9, .int .i64 (wr (p0_0 + p0_1)))] (by kernel_rfl) (qT (qT qZ)) (by kernel_rfl) ?_
  refine wH_load1 (i := 7) (d := 12) (T := 2) (ad := ⟨b1, 0, none⟩) (v := .int .i64 (p0_0)) (by kernel_rfl) (qT (qT qZ)) (by kernel_rfl) (by kernel_rfl) vt2 (fun W hW => (Z20.chg hW notNil).cell 0) ?_
  refine wH_take [8] [8, 7, 6, 5, 4, 3, 2, 1, 0] [(13, .pointer (some ⟨b1, 1, none⟩))] (by kernel_rfl) (qT (qT qZ)) (by kernel_rfl) ?_
  refine wH_load1 (i := 9) (d := 14) (T := 2) (ad := ⟨b1, 1, none⟩) (v := .int .i64 (p0_1)) (by kernel_rfl) (qT (qT qZ)) (by kernel_rfl) (by kernel_rfl) vt2 (fun W hW => (Z20.chg hW notNil).cell 1) ?_
  refine wH_take [10, 11, 12] [12, 11, 10, 9, 8, 7, 6, 5, 4, 3, 2, 1, 0] [(3, .int .i64 (wr ((wr (p0_0 + p0_1)) * 4096))), (16, .int .i64 (wr ((wr (p0_0 - p0_1)) * 4096))), (15, .int .i64 (wr (p0_0 - p0_1)))] (by kernel_rfl) (qT (qT qZ)) (by kernel_rfl) ?_
  refine wH_done (by kernel_rfl) ?_
  refine eX_tail ?_
  refine wS_pure 1 [(4, .int .i64 (wr ((wr (p0_0 - p0_1)) * 4096)))] (by kernel_rfl) ?_
  refine wS_end (by rfl) ?_
  refine eX_then ?_
  refine cW_seq ?_
  refine cW_region ?_
  refine wS_pure 5 [(21, .agg #[.int .i64 (wr ((wr (p0_0 + p0_1)) * 4096)), .int .i64 (wr ((wr (p0_0 + p0_1)) * 4096)), .int .i64 (wr ((wr (p0_0 - p0_1)) * 4096)), .int .i64 (wr ((wr (p0_0 - p0_1)) * 4096))]), (20, .int .i64 (wr ((wr (p0_0 - p0_1)) * 4096))), (19, .int .i64 (wr ((wr (p0_0 - p0_1)) * 4096))), (18, .int .i64 (wr ((wr (p0_0 + p0_1)) * 4096))), (17, .int .i64 (wr ((wr (p0_0 + p0_1)) * 4096)))] (by kernel_rfl) ?_
  refine wS_store (T := 25) (g := b7) (o := 0) (ad := ⟨b7, 0, none⟩) (v := .agg #[.int .i64 (wr ((wr (p0_0 + p0_1)) * 4096)), .int .i64 (wr ((wr (p0_0 + p0_1)) * 4096)), .int .i64 (wr ((wr (p0_0 - p0_1)) * 4096)), .int .i64 (wr ((wr (p0_0 - p0_1)) * 4096))]) (vs := [.int .i64 (wr ((wr (p0_0 + p0_1)) * 4096)), .int .i64 (wr ((wr (p0_0 + p0_1)) * 4096)), .int .i64 (wr ((wr (p0_0 - p0_1)) * 4096)), .int .i64 (wr ((wr (p0_0 - p0_1)) * 4096))]) (by kernel_rfl) (by rfl) sz25 (by rfl) (by rfl) F10 (by simp only [List.length_cons, List.length_nil]; omega) ?_
  intro w22 F23 hc24
  replace F4 := F4.chg hc24 (dj1 D13)
  replace hB := hB.inS hc24 (inLow (low1 G9))
  replace hZ := Nat.le_trans hZ hc24.size
  replace F23 : Cl w22 b7 25 [.int .i64 (wr ((wr (p0_0 + p0_1)) * 4096)), .int .i64 (wr ((wr (p0_0 + p0_1)) * 4096)), .int .i64 (wr ((wr (p0_0 - p0_1)) * 4096)), .int .i64 (wr ((wr (p0_0 - p0_1)) * 4096))] := F23
  clear F10
  refine wS_end (by rfl) ?_
  refine eX_then ?_
  refine cW_ret ?_
  have hq : (some ((wr ((wr (p0_0 + p0_1)) * 4096), wr ((wr (p0_0 + p0_1)) * 4096), wr ((wr (p0_0 - p0_1)) * 4096), wr ((wr (p0_0 - p0_1)) * 4096))) : Option ((Int × Int × Int × Int))) = some _ := hm
  replace hq := someE hq
  subst hq
  refine eX_ret (vs := [.agg #[.int .i64 (wr ((wr (p0_0 + p0_1)) * 4096)), .int .i64 (wr ((wr (p0_0 + p0_1)) * 4096)), .int .i64 (wr ((wr (p0_0 - p0_1)) * 4096)), .int .i64 (wr ((wr (p0_0 - p0_1)) * 4096))]]) [.cell 2 25] (by rfl) ⟨⟨⟨b7, 0, none⟩, by kernel_rfl, run_loadVarA (vs := [.int .i64 (wr ((wr (p0_0 + p0_1)) * 4096)), .int .i64 (wr ((wr (p0_0 + p0_1)) * 4096)), .int .i64 (wr ((wr (p0_0 - p0_1)) * 4096)), .int .i64 (wr ((wr (p0_0 - p0_1)) * 4096))]) vt25 (fun i u hu => by exact box_cells F23 0 hu (by rfl))⟩, trivial⟩ ?_
  exact ⟨rfl, hB⟩

set_option maxRecDepth 100000 in
/-- impl.tree -/
theorem c_impl_tree {w0 : World} {l0 : List (Int × Int)} {A0 : Option Addr} {cap0 : Nat} {fp0 : List Nat} {l1 : List (List (Int))} {A1 : Option Addr} {cap1 : Nat} {fp1 : List Nat} {r : (List (Int × Int × Int × Int × Int)) × (List (Int)) × (Bool)} (hm : m_impl_tree l0 l1 = some r) (F0 : Sl 2 encII w0 fp0 A0 l0) (F1 : SlR 1 encI w0 fp1 A1 l1) :
    Calls Try.prog 96 #[.slice A0 (l0).length cap0, .slice A1 (l1).length cap1] w0 fun e w' => ∃ A100 cap100 fp100, ∃ A101 cap101 fp101, e = .returned (.tuple #[.slice A100 (r.1).length cap100, .slice A101 (r.2.1).length cap101, .bool (r.2.2)]) ∧ Ow 5 encIIIII 27 w' fp100 A100 cap100 r.1 ∧ (∀ x ∈ fp100, w0.heap.size ≤ x) ∧ Ow 1 encI 2 w' fp101 A101 cap101 r.2.1 ∧ (∀ x ∈ fp101, w0.heap.size ≤ x) ∧ Dj fp100 fp101 ∧ Chg [] w0 w' := by
  have L0 := F0.low
  have L1 := F1.low
  have hB : Chg [] w0 w0 := Chg.refl _ _
  have hZ := Nat.le_refl w0.heap.size
  unfold m_impl_tree at hm
  refine enterE (N := 91) Try.func96 (by rfl) Try.ntmps96 (by simp) [(0, .slice A0 (l0).length cap0), (1, .slice A1 (l1).length cap1)] (by rfl) (by kernel_rfl) (fun a => ?_)
  refine cW_seq ?_
  refine cW_region ?_
  refine wS_pure 3 [(6, .bool (false)), (5, .slice none 0 0), (4, .slice none 0 0)] (by kernel_rfl) ?_
  refine wS_end (by rfl) ?_
  refine eX_then ?_
  refine cW_seq ?_
  refine cW_seq ?_
  refine cW_region ?_
  refine wS_pure 1 [(17, .slice A0 (l0).length cap0)] (by kernel_rfl) ?_
  obtain ⟨y3, hy4, hm⟩ := bindE hm
  refine wS_calls (d := 18) (f := 101) (vs := [.slice A0 (l0).length cap0]) (by kernel_rfl) ent101 (c_impl_clockPins hy4 F0) ?_
  rintro _ w5 ⟨rfl, hc6⟩
  replace F0 := F0.chg hc6 Dj.nil
  replace F1 := F1.chg hc6 Dj.nil
  replace hB := hB.inS hc6 inNil
  replace hZ := Nat.le_trans hZ hc6.size
  refine ⟨.bool (y3), rfl, ?_⟩
  refine wS_pure 2 [(20, .bool (!y3)), (19, .bool (!y3))] (by kernel_rfl) ?_
  refine wS_bool (!y3) (fun hb7 => ?_) (fun hb7 => ?_)
  · have hm := condT hb7 hm
    rewrite [hb7]
    refine wS_pure 6 [(26, .bool (true)), (25, undef), (24, undef), (23, undef), (22, undef), (21, undef)] (by kernel_rfl) ?_
    refine wS_end (by rfl) ?_
    refine eX_then ?_
    refine cW_cond_t (by kernel_rfl) ?_
    refine cW_seq ?_
    refine cW_region ?_
    refine wS_pure 3 [(6, .bool (false)), (5, .slice none 0 0), (4, .slice none 0 0)] (by kernel_rfl) ?_
    refine wS_end (by rfl) ?_
    refine eX_then ?_
    refine cW_ret ?_
    refine eX_then_ret ?_
    have hq : (some (([], [], false)) : Option ((List (Int × Int × Int × Int × Int)) × (List (Int)) × (Bool))) = some _ := hm
    replace hq := someE hq
    subst hq
    refine eX_ret (vs := [.slice none 0 0, .slice none 0 0, .bool (false)]) [.tmp 4, .tmp 5, .tmp 6] (by rfl) ⟨by (show lkE _ _ _ = _); kernel_rfl, ⟨by (show lkE _ _ _ = _); kernel_rfl, ⟨by (show lkE _ _ _ = _); kernel_rfl, trivial⟩⟩⟩ ?_
    exact ⟨none, 0, [], none, 0, [], rfl, Ow.nil _, lowNil, Ow.nil _, lowNil, Dj.nil, hB⟩
  · have hm := condF hb7 hm
    rewrite [hb7]
    refine wS_pure 3 [(23, .slice A1 (l1).length cap1), (22, .int .i64 (((l0).length : Int))), (21, .slice A0 (l0).length cap0)] (by kernel_rfl) ?_
    obtain ⟨y8, hy9, hm⟩ := bindE hm
    refine wS_calls (d := 24) (f := 44) (vs := [.int .i64 (((l0).length : Int)), .slice A1 (l1).length cap1]) (by kernel_rfl) ent44 (c_impl_IsJoins hy9 F1) ?_
    rintro _ w10 ⟨rfl, hc11⟩
    replace F0 := F0.chg hc11 Dj.nil
    replace F1 := F1.chg hc11 Dj.nil
    replace hB := hB.inS hc11 inNil
    replace hZ := Nat.le_trans hZ hc11.size
    refine ⟨.bool (y8), rfl, ?_⟩
    refine wS_pure 2 [(26, .bool (!y8)), (25, .bool (!y8))] (by kernel_rfl) ?_
    refine wS_end (by rfl) ?_
    refine eX_then ?_
    refine cW_cond (t := !y8) (by kernel_rfl) (fun hb12 => ?_) (fun hb12 => ?_)
    · have hm := condT hb12 hm
      refine cW_seq ?_
      refine cW_region ?_
      refine wS_pure 3 [(6, .bool (false)), (5, .slice none 0 0), (4, .slice none 0 0)] (by kernel_rfl) ?_
      refine wS_end (by rfl) ?_
      refine eX_then ?_
      refine cW_ret ?_
      refine eX_then_ret ?_
      have hq : (some (([], [], false)) : Option ((List (Int × Int × Int × Int × Int)) × (List (Int)) × (Bool))) = some _ := hm
      replace hq := someE hq
      subst hq
      refine eX_ret (vs := [.slice none 0 0, .slice none 0 0, .bool (false)]) [.tmp 4, .tmp 5, .tmp 6] (by rfl) ⟨by (show lkE _ _ _ = _); kernel_rfl, ⟨by (show lkE _ _ _ = _); kernel_rfl, ⟨by (show lkE _ _ _ = _); kernel_rfl, trivial⟩⟩⟩ ?_
      exact ⟨none, 0, [], none, 0, [], rfl, Ow.nil _, lowNil, Ow.nil _, lowNil, Dj.nil, hB⟩
    · have hm := condF hb12 hm
      refine cW_skip ?_
      refine eX_then ?_
      refine cW_seq ?_
      obtain ⟨s104, hs105, hm⟩ := bindE hm
      refine cW_cut (fun a' w' => ∃ l86 : List (Int × Int × Int × Int × Int), ∃ A87 : Option Addr, ∃ cap88 : Nat, ∃ fp89 : List Nat, ∃ l91 : List (Int), ∃ A92 : Option Addr, ∃ cap93 : Nat, ∃ fp94 : List Nat, (l86, l91) = s104 ∧ Fr 91 [(0, .slice A0 (l0).length cap0), (1, .slice A1 (l1).length cap1), (7, .slice A87 (l86).length cap88), (8, .slice A92 (l91).length cap93)] a' ∧ Sl 2 encII w' fp0 A0 l0 ∧ SlR 1 encI w' fp1 A1 l1 ∧ Ow 5 encIIIII 27 w' fp89 A87 cap88 l86 ∧ Ow 1 encI 2 w' fp94 A92 cap93 l91 ∧ (∀ x ∈ fp89, w0.heap.size ≤ x) ∧ (∀ x ∈ fp94, w0.heap.size ≤ x) ∧ Dj fp94 fp89 ∧ Chg [] w0 w' ∧ w0.heap.size ≤ w'.heap.size) ?_ ?_
      · have hm := hs105
        refine cW_drawnTail [] 7 (by kernel_rfl) (by kernel_rfl) (fun w106 hc107 => ?_)
        replace F0 := F0.chg hc107 Dj.nil
        replace F1 := F1.chg hc107 Dj.nil
        replace hB := hB.inS hc107 inNil
        replace hZ := Nat.le_trans hZ hc107.size
        have hS := Chg.refl [] w106
        have Z108 := F0
        have Z109 := F1
        refine wH_take [1, 2, 3, 4] [4, 3, 2, 1] [(31, .int .i64 (wr ((wr (2 * (((l0).length : Int)))) - 1))), (30, .int .i64 (wr (2 * (((l0).length : Int))))), (29, .int .i64 (((l0).length : Int))), (28, .slice A0 (l0).length cap0)] (by kernel_rfl) (qT (qT (qT qZ))) (by kernel_rfl) ?_
        refine wH_all [0, 5] (by rfl) (by kernel_rfl) (by simp) ⟨⟨by kernel_rfl, ?_⟩, ⟨by kernel_rfl, ?_⟩, trivial⟩
        · skip
          refine wS_bs0 (α := Int × Int × Int × Int × Int) (enc := encIIIII) (d := 27) (t := 61) (T := 27) (by kernel_rfl) el61 ?_
          intro b110 w111 G112 F113 hc114
          replace F0 := F0.chg hc114 Dj.nil
          replace F1 := F1.chg hc114 Dj.nil
          replace hB := hB.inS hc114 inNil
          have hSz := hS
          replace hS := hS.inS hc114 inNil
          have Gz116 := low1 (Nat.le_trans hSz.size G112)
          replace G112 := Nat.le_trans hZ G112
          replace G112 := low1 G112
          replace hZ := Nat.le_trans hZ hc114.size
          refine wS_end (by kernel_rfl) ?_
          refine eX_KH hS ?_
          refine wH_take [6] [6, 0, 4, 3, 2, 1] [(7, .slice (some ⟨b110, 0, none⟩) (([] : List (Int × Int × Int × Int × Int))).length 0)] (by kernel_rfl) (qT (qT (qT qZ))) (by kernel_rfl) ?_
          refine wH_all [5] (by rfl) (by kernel_rfl) (by simp) ⟨⟨by kernel_rfl, ?_⟩, trivial⟩
          obtain ⟨_, hk117, hm⟩ := bindE hm
          replace hk117 := mkE hk117
          refine wS_make (enc := encI) (x0 := (0 : Int)) (d := 32) (t := 38) (T := 2) (k1 := .i64) (k2 := .i64) (m := wr ((wr (2 * (((l0).length : Int)))) - 1)) (by kernel_rfl) el38 encI_ok (by rfl) hk117.1 hk117.2 ?_
          intro b118 w119 G120 F121 hc122
          have D124 : Dj [b110] [b118] := Dj.of F113.low (low1 G120)
          replace F0 := F0.chg hc122 Dj.nil
          replace F1 := F1.chg hc122 Dj.nil
          replace F113 := F113.chg hc122 Dj.nil
          replace hB := hB.inS hc122 inNil
          have hSz := hS
          replace hS := hS.inS hc122 inNil
          have Gz125 := low1 (Nat.le_trans hSz.size G120)
          replace G120 := Nat.le_trans hZ G120
          replace G120 := low1 G120
          replace hZ := Nat.le_trans hZ hc122.size
          refine wS_end (by kernel_rfl) ?_
          refine eX_KH hS ?_
          refine wH_done (by kernel_rfl) ?_
          refine eX_tail ?_
          refine wS_pure 1 [(8, .slice (some ⟨b118, 0, none⟩) (List.replicate (Int.toNat (wr ((wr (2 * (((l0).length : Int)))) - 1))) ((0 : Int))).length (Int.toNat (wr ((wr (2 * (((l0).length : Int)))) - 1))))] (by kernel_rfl) ?_
          refine wS_end (by rfl) ?_
          have hq : (some ((([] : List (Int × Int × Int × Int × Int)), List.replicate (Int.toNat (wr ((wr (2 * (((l0).length : Int)))) - 1))) ((0 : Int)))) : Option ((List (Int × Int × Int × Int × Int)) × (List (Int)))) = some _ := hm
          replace hq := someE hq
          subst hq
          exact eX_J (fun hst => ⟨([] : List (Int × Int × Int × Int × Int)), (some ⟨b110, 0, none⟩), 0, [b110], List.replicate (Int.toNat (wr ((wr (2 * (((l0).length : Int)))) - 1))) ((0 : Int)), (some ⟨b118, 0, none⟩), (Int.toNat (wr ((wr (2 * (((l0).length : Int)))) - 1))), [b118], rfl, Fr.of hst (by kernel_rfl), F0, F1, F113, F121, G112, G120, (D124).symm, hB, hZ⟩)
        · skip
          obtain ⟨_, hk126, hm⟩ := bindE hm
          replace hk126 := mkE hk126
          refine wS_make (enc := encI) (x0 := (0 : Int)) (d := 32) (t := 38) (T := 2) (k1 := .i64) (k2 := .i64) (m := wr ((wr (2 * (((l0).length : Int)))) - 1)) (by kernel_rfl) el38 encI_ok (by rfl) hk126.1 hk126.2 ?_
          intro b127 w128 G129 F130 hc131
          replace F0 := F0.chg hc131 Dj.nil
          replace F1 := F1.chg hc131 Dj.nil
          replace hB := hB.inS hc131 inNil
          have hSz := hS
          replace hS := hS.inS hc131 inNil
          have Gz133 := low1 (Nat.le_trans hSz.size G129)
          replace G129 := Nat.le_trans hZ G129
          replace G129 := low1 G129
          replace hZ := Nat.le_trans hZ hc131.size
          refine wS_end (by kernel_rfl) ?_
          refine eX_KH hS ?_
          refine wH_all [0] (by rfl) (by kernel_rfl) (by simp) ⟨⟨by kernel_rfl, ?_⟩, trivial⟩
          refine wS_bs0 (α := Int × Int × Int × Int × Int) (enc := encIIIII) (d := 27) (t := 61) (T := 27) (by kernel_rfl) el61 ?_
          intro b134 w135 G136 F137 hc138
          have D140 : Dj [b127] [b134] := Dj.of F130.low (low1 G136)
          replace F0 := F0.chg hc138 Dj.nil
          replace F1 := F1.chg hc138 Dj.nil
          replace F130 := F130.chg hc138 Dj.nil
          replace hB := hB.inS hc138 inNil
          have hSz := hS
          replace hS := hS.inS hc138 inNil
          have Gz141 := low1 (Nat.le_trans hSz.size G136)
          replace G136 := Nat.le_trans hZ G136
          replace G136 := low1 G136
          replace hZ := Nat.le_trans hZ hc138.size
          refine wS_end (by kernel_rfl) ?_
          refine eX_KH hS ?_
          refine wH_take [6] [6, 0, 5, 4, 3, 2, 1] [(7, .slice (some ⟨b134, 0, none⟩) (([] : List (Int × Int × Int × Int × Int))).length 0)] (by kernel_rfl) (qT (qT (qT qZ))) (by kernel_rfl) ?_
          refine wH_done (by kernel_rfl) ?_
          refine eX_tail ?_
          refine wS_pure 1 [(8, .slice (some ⟨b127, 0, none⟩) (List.replicate (Int.toNat (wr ((wr (2 * (((l0).length : Int)))) - 1))) ((0 : Int))).length (Int.toNat (wr ((wr (2 * (((l0).length : Int)))) - 1))))] (by kernel_rfl) ?_
          refine wS_end (by rfl) ?_
          have hq : (some ((([] : List (Int × Int × Int × Int × Int)), List.replicate (Int.toNat (wr ((wr (2 * (((l0).length : Int)))) - 1))) ((0 : Int)))) : Option ((List (Int × Int × Int × Int × Int)) × (List (Int)))) = some _ := hm
          replace hq := someE hq
          subst hq
          exact eX_J (fun hst => ⟨([] : List (Int × Int × Int × Int × Int)), (some ⟨b134, 0, none⟩), 0, [b134], List.replicate (Int.toNat (wr ((wr (2 * (((l0).length : Int)))) - 1))) ((0 : Int)), (some ⟨b127, 0, none⟩), (Int.toNat (wr ((wr (2 * (((l0).length : Int)))) - 1))), [b127], rfl, Fr.of hst (by kernel_rfl), F0, F1, F137, F130, G136, G129, D140, hB, hZ⟩)
      · rintro a' w85 ⟨l86, A87, cap88, fp89, l91, A92, cap93, fp94, hJ, hF96, F97, F98, F99, F100, G101, G102, D103, hB, hZ⟩
        subst hJ
        refine Fr.goX hF96 (by kernel_rfl) ?_
        refine eX_then ?_
        refine cW_seq ?_
        refine cW_seq ?_
        refine cW_region ?_
        refine wS_pure 3 [(35, .int .i64 (0)), (34, .int .i64 (((l0).length : Int))), (33, .slice A0 (l0).length cap0)] (by kernel_rfl) ?_
        refine wS_end (by rfl) ?_
        refine eX_then ?_
        obtain ⟨r266, hr267, hm⟩ := bindE hm
        have hm268 := hm
        refine cW_cut (fun a' w' => ∃ l241 : List (Int × Int × Int × Int × Int), ∃ A242 : Option Addr, ∃ cap243 : Nat, ∃ fp244 : List Nat, l241 = r266 ∧ Fr 91 [(1, .slice A1 (l1).length cap1), (7, .slice A242 (l241).length cap243), (8, .slice A92 (l91).length cap93)] a' ∧ SlR 1 encI w' fp1 A1 l1 ∧ Ow 1 encI 2 w' fp94 A92 cap93 l91 ∧ Ow 5 encIIIII 27 w' fp244 A242 cap243 l241 ∧ (∀ x ∈ fp244, w0.heap.size ≤ x) ∧ Dj fp94 fp244 ∧ Chg [] w0 w' ∧ w0.heap.size ≤ w'.heap.size) ?_ ?_
        · refine cW_block ?_
          refine cW_loop _ (fun (s269 : (List (Int × Int × Int × Int × Int)) × Int) a' w' => ∃ l253 : List (Int × Int × Int × Int × Int), ∃ A254 : Option Addr, ∃ cap255 : Nat, ∃ fp256 : List Nat, ∃ x258 : Int, (l253, x258) = s269 ∧ Fr 91 [(1, .slice A1 (l1).length cap1), (7, .slice A254 (l253).length cap255), (8, .slice A92 (l91).length cap93), (33, .slice A0 (l0).length cap0), (34, .int .i64 (((l0).length : Int))), (35, .int .i64 (x258))] a' ∧ Sl 2 encII w' fp0 A0 l0 ∧ SlR 1 encI w' fp1 A1 l1 ∧ Ow 1 encI 2 w' fp94 A92 cap93 l91 ∧ Ow 5 encIIIII 27 w' fp256 A254 cap255 l253 ∧ (∀ x ∈ fp256, w0.heap.size ≤ x) ∧ Dj fp94 fp256 ∧ Chg [] w0 w' ∧ w0.heap.size ≤ w'.heap.size) hr267 (fun hst => ⟨l86, A87, cap88, fp89, 0, rfl, Fr.of hst (by kernel_rfl), F97, F98, F100, F99, G101, D103, hB, hZ⟩) ?_
          rintro _ c270 a' w252 ⟨l253, A254, cap255, fp256, x258, rfl, hF259, F260, F261, F262, F263, G264, D265, hB, hZ⟩ hx271
          refine Fr.goOn hF259 (by kernel_rfl) ?_
          have hm := hx271
          unfold m_impl_tree_s1 at hm
          refine cW_seq ?_
          refine cW_region ?_
          refine wS_pure 1 [(36, .bool (decide (x258 < (((l0).length : Int)))))] (by kernel_rfl) ?_
          refine wS_end (by rfl) ?_
          refine eX_then ?_
          refine cW_seq ?_
          refine cW_cond (t := decide (x258 < (((l0).length : Int)))) (by kernel_rfl) (fun hb272 => ?_) (fun hb272 => ?_)
          · have hm := condT hb272 hm
            refine cW_skip ?_
            refine eX_then ?_
            refine cW_seq ?_
            refine cW_block ?_
            refine cW_seq ?_
            refine cW_region ?_
            obtain ⟨x273, hx274, hm⟩ := bindE hm
            refine wS_idx (d := 37) (T := 58) (A := A0) (n := (l0).length) (cap := cap0) (kd := .i64) (m := x258) (by kernel_rfl) sl58 (F260.is hx274) ?_
            refine wS_loadA (d := 38) (T := 116) (ad := (elA A0 2 (x258) 0)) (vs := [.int .i64 (x273.1), .int .i64 (x273.2)]) (by kernel_rfl) vt116 (fun i u hu => Sl.cells_at F260 hx274 0 hu (by rfl)) ?_
            refine wS_alloc (d := 10) (T := 116) (z := .agg #[.int .i64 (0), .int .i64 (0)]) (by kernel_rfl) (by kernel_rfl) ?_
            intro b275 w276 G277 F278 hc279
            replace F278 : Cl w276 b275 116 [.int .i64 (0), .int .i64 (0)] := F278
            have D281 : Dj fp94 [b275] := Dj.of F262.low (low1 G277)
            have D282 : Dj fp256 [b275] := Dj.of F263.low (low1 G277)
            replace F260 := F260.chg hc279 Dj.nil
            replace F261 := F261.chg hc279 Dj.nil
            replace F262 := F262.chg hc279 Dj.nil
            replace F263 := F263.chg hc279 Dj.nil
            replace hB := hB.inS hc279 inNil
            replace G277 := Nat.le_trans hZ G277
            replace hZ := Nat.le_trans hZ hc279.size
            refine wS_store (T := 116) (g := b275) (o := 0) (ad := ⟨b275, 0, none⟩) (v := .agg #[.int .i64 (x273.1), .int .i64 (x273.2)]) (vs := [.int .i64 (x273.1), .int .i64 (x273.2)]) (by kernel_rfl) (by rfl) sz116 (by rfl) (by rfl) F278 (by simp only [List.length_cons, List.length_nil]; omega) ?_
            intro w283 F284 hc285
            replace F260 := F260.chg hc285 (Dj.of L0 (low1 G277))
            replace F261 := F261.chg hc285 (Dj.of L1 (low1 G277))
            replace F262 := F262.chg hc285 D281
            replace F263 := F263.chg hc285 D282
            replace hB := hB.inS hc285 (inLow (low1 G277))
            replace hZ := Nat.le_trans hZ hc285.size
            replace F284 : Cl w283 b275 116 [.int .i64 (x273.1), .int .i64 (x273.2)] := F284
            clear F278
            refine wS_end (by rfl) ?_
            refine eX_then ?_
            refine cW_region ?_
            refine wS_pure 1 [(39, .slice A254 (l253).length cap255)] (by kernel_rfl) ?_
            refine wS_loadA (d := 40) (T := 116) (ad := ⟨b275, 0, none⟩) (vs := [.int .i64 (x273.1), .int .i64 (x273.2)]) (by kernel_rfl) vt116 (fun i u hu => box_cells F284 0 hu (by rfl)) ?_
            obtain ⟨y286, hy287, hm⟩ := bindE hm
            refine wS_calls (d := 41) (f := 102) (vs := [.agg #[.int .i64 (x273.1), .int .i64 (x273.2)]]) (by kernel_rfl) ent102 (c_impl_leaf hy287) ?_
            rintro _ w288 ⟨rfl, hc289⟩
            replace F260 := F260.chg hc289 Dj.nil
            replace F261 := F261.chg hc289 Dj.nil
            replace F262 := F262.chg hc289 Dj.nil
            replace F263 := F263.chg hc289 Dj.nil
            replace F284 := F284.chg hc289 notNil
            replace hB := hB.inS hc289 inNil
            replace hZ := Nat.le_trans hZ hc289.size
            refine ⟨.agg #[.int .i64 (y286.1), .int .i64 (y286.2.1), .int .i64 (y286.2.2.1), .int .i64 (y286.2.2.2)], rfl, ?_⟩
            refine wS_pure 1 [(42, .agg #[.int .i64 (y286.1), .int .i64 (y286.2.1), .int .i64 (y286.2.2.1), .int .i64 (y286.2.2.2), .int .i64 (0)])] (by kernel_rfl) ?_
            refine wS_bs (enc := encIIIII) ([(y286.1, y286.2.1, y286.2.2.1, y286.2.2.2, 0)] : List (Int × Int × Int × Int × Int)) [.int .i64 (y286.1), .int .i64 (y286.2.1), .int .i64 (y286.2.2.1), .int .i64 (y286.2.2.2), .int .i64 (0)] (d := 43) (t := 61) (T := 27) (n := 1) (ps := [(0, .agg #[.int .i64 (y286.1), .int .i64 (y286.2.1), .int .i64 (y286.2.2.1), .int .i64 (y286.2.2.2), .int .i64 (0)])]) (by kernel_rfl) el61 encIIIII_ok (by rfl) (by omega) (by omega) (by kernel_rfl) (by rfl) ?_
            intro b290 w291 G292 F293 hc294
            have D296 : Dj fp94 [b290] := Dj.of F262.low (low1 G292)
            have D297 : Dj fp256 [b290] := Dj.of F263.low (low1 G292)
            have D298 : Dj [b275] [b290] := Dj.of (lt1 F284.lt) (low1 G292)
            replace F260 := F260.chg hc294 Dj.nil
            replace F261 := F261.chg hc294 Dj.nil
            replace F262 := F262.chg hc294 Dj.nil
            replace F263 := F263.chg hc294 Dj.nil
            replace F284 := F284.chg hc294 notNil
            replace hB := hB.inS hc294 inNil
            replace G292 := Nat.le_trans hZ G292
            replace G292 := low1 G292
            replace hZ := Nat.le_trans hZ hc294.size
            obtain ⟨_, hk299, hm⟩ := bindE hm
            replace hk299 := apE hk299
            refine wS_append (enc := encIIIII) (l := (l253 : List (Int × Int × Int × Int × Int))) (l2 := (([(y286.1, y286.2.1, y286.2.2.1, y286.2.2.2, 0)] : List (Int × Int × Int × Int × Int)) : List (Int × Int × Int × Int × Int))) (d := 44) (t := 61) (T := 27) (A := A254) (A2 := (some ⟨b290, 0, none⟩)) (cap := cap255) (cap2 := 1) (by kernel_rfl) el61 encIIIII_ok F263 (F293.sl encIIIII_ok) (by rfl) hk299 ?_
            intro w300 fp301 A302 cap303 F304 hc305 hp306
            have G308 := low_ap G264 hZ hp306
            have D309 : Dj fp94 fp301 := Dj.ap D265 F262.low hp306
            have D310 : Dj [b275] fp301 := Dj.ap (D282).symm (lt1 F284.lt) hp306
            have D311 : Dj [b290] fp301 := Dj.ap (D297).symm F293.low hp306
            replace F260 := F260.chg hc305 (Dj.of L0 G264)
            replace F261 := F261.chg hc305 (Dj.of L1 G264)
            replace F262 := F262.chg hc305 D265
            replace F284 := F284.chg hc305 (dj1 (D282).symm)
            replace F293 := F293.chg hc305 (D297).symm
            replace hB := hB.inS hc305 (inLow G264)
            replace hZ := Nat.le_trans hZ hc305.size
            refine wS_pure 1 [(7, .slice A302 (l253 ++ (([(y286.1, y286.2.1, y286.2.2.1, y286.2.2.2, 0)] : List (Int × Int × Int × Int × Int)))).length cap303)] (by kernel_rfl) ?_
            refine wS_end (by rfl) ?_
            refine eX_block ?_
            refine eX_then ?_
            refine cW_region ?_
            refine wS_pure 2 [(35, .int .i64 (wr (x258 + 1))), (45, .int .i64 (wr (x258 + 1)))] (by kernel_rfl) ?_
            refine wS_end (by rfl) ?_
            have hq : (some (Ctl.next ((l253 ++ (([(y286.1, y286.2.1, y286.2.2.1, y286.2.2.2, 0)] : List (Int × Int × Int × Int × Int))), wr (x258 + 1)))) : Option (Ctl ((List (Int × Int × Int × Int × Int)) × Int) ((List (Int × Int × Int × Int × Int))))) = some _ := hm
            replace hq := someE hq
            subst hq
            exact eX_next hx271 (fun hst => ⟨l253 ++ (([(y286.1, y286.2.1, y286.2.2.1, y286.2.2.2, 0)] : List (Int × Int × Int × Int × Int))), A302, cap303, fp301, wr (x258 + 1), rfl, Fr.of hst (by kernel_rfl), F260, F261, F262, F304, G308, D309, hB, hZ⟩)
          · have hm := condF hb272 hm
            refine cW_exit ?_
            refine eX_then_exit ?_
            have hq : (some (Ctl.out l253) : Option (Ctl ((List (Int × Int × Int × Int × Int)) × Int) ((List (Int × Int × Int × Int × Int))))) = some _ := hm
            replace hq := someE hq
            subst hq
            refine eX_outX hx271 (fun hr312 => ?_)
            replace hr312 := hr312.symm
            subst hr312
            refine eX_block_hit ?_
            exact eX_J (fun hst => ⟨l253, A254, cap255, fp256, rfl, Fr.of hst (by kernel_rfl), F261, F262, F263, G264, D265, hB, hZ⟩)
        · rintro a' w240 ⟨l241, A242, cap243, fp244, hJ, hF246, F247, F248, F249, G250, D251, hB, hZ⟩
          subst hJ
          refine Fr.goX hF246 (by kernel_rfl) ?_
          refine eX_then ?_
          refine cW_seq ?_
          refine cW_seq ?_
          refine cW_region ?_
          refine wS_pure 3 [(48, .int .i64 (0)), (47, .int .i64 (((l1).length : Int))), (46, .slice A1 (l1).length cap1)] (by kernel_rfl) ?_
          refine wS_end (by rfl) ?_
          refine eX_then ?_
          obtain ⟨r830, hr831, hm⟩ := bindE hm
          have hm832 := hm
          refine cW_cut (fun a' w' => ∃ l805 : List (Int × Int × Int × Int × Int), ∃ A806 : Option Addr, ∃ cap807 : Nat, ∃ fp808 : List Nat, ∃ l810 : List (Int), Sum.inl ((l805, l810)) = r830 ∧ Fr 91 [(7, .slice A806 (l805).length cap807), (8, .slice A92 (l810).length cap93)] a' ∧ Ow 1 encI 2 w' fp94 A92 cap93 l810 ∧ Ow 5 encIIIII 27 w' fp808 A806 cap807 l805 ∧ (∀ x ∈ fp808, w0.heap.size ≤ x) ∧ Dj fp94 fp808 ∧ Chg [] w0 w' ∧ w0.heap.size ≤ w'.heap.size) ?_ ?_
          · refine cW_block ?_
            refine cW_loop _ (fun (s833 : (List (Int × Int × Int × Int × Int)) × Int × (List (Int))) a' w' => ∃ l817 : List (Int × Int × Int × Int × Int), ∃ A818 : Option Addr, ∃ cap819 : Nat, ∃ fp820 : List Nat, ∃ x822 : Int, ∃ l823 : List (Int), (l817, x822, l823) = s833 ∧ Fr 91 [(7, .slice A818 (l817).length cap819), (8, .slice A92 (l823).length cap93), (46, .slice A1 (l1).length cap1), (47, .int .i64 (((l1).length : Int))), (48, .int .i64 (x822))] a' ∧ SlR 1 encI w' fp1 A1 l1 ∧ Ow 1 encI 2 w' fp94 A92 cap93 l823 ∧ Ow 5 encIIIII 27 w' fp820 A818 cap819 l817 ∧ (∀ x ∈ fp820, w0.heap.size ≤ x) ∧ Dj fp94 fp820 ∧ Chg [] w0 w' ∧ w0.heap.size ≤ w'.heap.size) hr831 (fun hst => ⟨l241, A242, cap243, fp244, 0, l91, rfl, Fr.of hst (by kernel_rfl), F247, F248, F249, G250, D251, hB, hZ⟩) ?_
            rintro _ c834 a' w816 ⟨l817, A818, cap819, fp820, x822, l823, rfl, hF824, F825, F826, F827, G828, D829, hB, hZ⟩ hx835
            refine Fr.goOn hF824 (by kernel_rfl) ?_
            have hm := hx835
            unfold m_impl_tree_s2 at hm
            refine cW_seq ?_
            refine cW_region ?_
            refine wS_pure 1 [(49, .bool (decide (x822 < (((l1).length : Int)))))] (by kernel_rfl) ?_
            refine wS_end (by rfl) ?_
            refine eX_then ?_
            refine cW_seq ?_
            refine cW_cond (t := decide (x822 < (((l1).length : Int)))) (by kernel_rfl) (fun hb836 => ?_) (fun hb836 => ?_)
            · have hm := condT hb836 hm
              refine cW_skip ?_
              refine eX_then ?_
              refine cW_seq ?_
              refine cW_block ?_
              refine cW_seq ?_
              refine cW_region ?_
              obtain ⟨x837, hx838, hm⟩ := bindE hm
              refine wS_idx (d := 50) (T := 37) (A := A1) (n := (l1).length) (cap := cap1) (kd := .i64) (m := x822) (by kernel_rfl) sl37 (F825.is hx838) ?_
              obtain ⟨A839, cap840, hc842, F841, K843⟩ := SlR.row F825 hx838
              refine wS_load1 (d := 51) (T := 38) (ad := (elA A1 1 (x822) 0)) (v := .slice A839 (x837).length cap840) (by kernel_rfl) vt38 hc842 ?_
              refine wS_pure 1 [(12, .slice A839 (x837).length cap840)] (by kernel_rfl) ?_
              refine wS_end (by rfl) ?_
              refine eX_then ?_
              refine cW_seq ?_
              obtain ⟨s957, hs958, hm⟩ := bindE hm
              refine cW_cut (fun a' w' => ∃ b938 : Nat, ∃ x939 : Int, ∃ x940 : Int, ∃ x941 : Int, ∃ x942 : Int, ∃ x943 : Int, ∃ x945 : Int, ∃ x946 : Int, ∃ x947 : Bool, (x939, x940, x941, x942, x943, x945, x946, x947) = s957 ∧ Fr 91 [(7, .slice A818 (l817).length cap819), (8, .slice A92 (l823).length cap93), (12, .slice A839 (x837).length cap840), (13, .pointer (some ⟨b938, 0, none⟩)), (14, .int .i64 (x945)), (15, .int .i64 (x946)), (16, .bool (x947)), (46, .slice A1 (l1).length cap1), (47, .int .i64 (((l1).length : Int))), (48, .int .i64 (x822))] a' ∧ SlR 1 encI w' fp1 A1 l1 ∧ Ow 1 encI 2 w' fp94 A92 cap93 l823 ∧ Ow 5 encIIIII 27 w' fp820 A818 cap819 l817 ∧ Sl 1 encI w' fp1 A839 x837 ∧ Cl w' b938 27 [.int .i64 (x939), .int .i64 (x940), .int .i64 (x941), .int .i64 (x942), .int .i64 (x943)] ∧ w0.heap.size ≤ b938 ∧ Dj fp94 [b938] ∧ Dj fp820 [b938] ∧ Chg [] w0 w' ∧ w0.heap.size ≤ w'.heap.size) ?_ ?_
              · have hm := hs958
                refine cW_drawnTail [] 22 (by kernel_rfl) (by kernel_rfl) (fun w959 hc960 => ?_)
                replace F825 := F825.chg hc960 Dj.nil
                replace F826 := F826.chg hc960 Dj.nil
                replace F827 := F827.chg hc960 Dj.nil
                replace F841 := F841.chg hc960 Dj.nil
                replace hB := hB.inS hc960 inNil
                replace hZ := Nat.le_trans hZ hc960.size
                have hS := Chg.refl [] w959
                have Z961 := F825
                have Z962 := F826
                have Z963 := F827
                have Z964 := F841
                refine wH_take [0, 1] [1, 0] [(54, .slice A839 (x837).length cap840), (53, .slice A818 (l817).length cap819)] (by kernel_rfl) (qT (qT (qT (qB (qT (qL (qB (qT (qT qZ))))))))) (by kernel_rfl) ?_
                obtain ⟨x965, hx966, hm⟩ := bindE hm
                refine wH_idx (i := 2) (d := 55) (T := 38) (A := A839) (n := (x837).length) (cap := cap840) (kd := .i64) (m := 0) (by kernel_rfl) (qT (qT (qT (qB (qT (qL (qB (qT (qT qZ))))))))) (by kernel_rfl) (by kernel_rfl) sl38 (F841.is hx966) ?_
                refine wH_load1 (i := 3) (d := 56) (T := 2) (ad := (elA A839 1 (0) 0)) (v := .int .i64 (x965)) (by kernel_rfl) (qT (qT (qT (qB (qT (qL (qB (qT (qT qZ))))))))) (by kernel_rfl) (by kernel_rfl) vt2 (fun W hW => Sl.cell (Z964.chg hW Dj.nil) hx966 0 (by rfl)) ?_
                obtain ⟨x967, hx968, hm⟩ := bindE hm
                refine wH_idx (i := 4) (d := 57) (T := 61) (A := A818) (n := (l817).length) (cap := cap819) (kd := .i64) (m := x965) (by kernel_rfl) (qT (qT (qT (qB (qT (qL (qB (qT (qT qZ))))))))) (by kernel_rfl) (by kernel_rfl) sl61 ((F827.sl encIIIII_ok).is hx968) ?_
                refine wH_loadA (i := 5) (d := 58) (T := 27) (ad := (elA A818 5 (x965) 0)) (vs := [.int .i64 (x967.1), .int .i64 (x967.2.1), .int .i64 (x967.2.2.1), .int .i64 (x967.2.2.2.1), .int .i64 (x967.2.2.2.2)]) (by kernel_rfl) (qT (qT (qT (qB (qT (qL (qB (qT (qT qZ))))))))) (by kernel_rfl) (by kernel_rfl) vt27 (fun W hW i u hu => Sl.cells_at ((Z963.chg hW Dj.nil).sl encIIIII_ok) hx968 0 hu (by rfl)) ?_
                refine wH_take [6, 7] [7, 6, 5, 4, 3, 2, 1, 0] [(60, .slice A839 (x837).length cap840), (59, .slice A818 (l817).length cap819)] (by kernel_rfl) (qT (qT (qT (qB (qT (qL (qB (qT (qT qZ))))))))) (by kernel_rfl) ?_
                obtain ⟨x969, hx970, hm⟩ := bindE hm
                refine wH_idx (i := 8) (d := 61) (T := 38) (A := A839) (n := (x837).length) (cap := cap840) (kd := .i64) (m := 1) (by kernel_rfl) (qT (qT (qT (qB (qT (qL (qB (qT (qT qZ))))))))) (by kernel_rfl) (by kernel_rfl) sl38 (F841.is hx970) ?_
                refine wH_load1 (i := 9) (d := 62) (T := 2) (ad := (elA A839 1 (1) 0)) (v := .int .i64 (x969)) (by kernel_rfl) (qT (qT (qT (qB (qT (qL (qB (qT (qT qZ))))))))) (by kernel_rfl) (by kernel_rfl) vt2 (fun W hW => Sl.cell (Z964.chg hW Dj.nil) hx970 0 (by rfl)) ?_
                obtain ⟨x971, hx972, hm⟩ := bindE hm
                refine wH_idx (i := 10) (d := 63) (T := 61) (A := A818) (n := (l817).length) (cap := cap819) (kd := .i64) (m := x969) (by kernel_rfl) (qT (qT (qT (qB (qT (qL (qB (qT (qT qZ))))))))) (by kernel_rfl) (by kernel_rfl) sl61 ((F827.sl encIIIII_ok).is hx972) ?_
                refine wH_loadA (i := 11) (d := 64) (T := 27) (ad := (elA A818 5 (x969) 0)) (vs := [.int .i64 (x971.1), .int .i64 (x971.2.1), .int .i64 (x971.2.2.1), .int .i64 (x971.2.2.2.1), .int .i64 (x971.2.2.2.2)]) (by kernel_rfl) (qT (qT (qT (qB (qT (qL (qB (qT (qT qZ))))))))) (by kernel_rfl) (by kernel_rfl) vt27 (fun W hW i u hu => Sl.cells_at ((Z963.chg hW Dj.nil).sl encIIIII_ok) hx972 0 hu (by rfl)) ?_
                refine wH_all [12, 18] (by rfl) (by kernel_rfl) (by simp) ⟨⟨by kernel_rfl, ?_⟩, ⟨by kernel_rfl, ?_⟩, trivial⟩
                · skip
                  obtain ⟨y973, hy974, hm⟩ := bindE hm
                  refine wS_calls (d := 65) (f := 76) (vs := [.agg #[.int .i64 (x967.1), .int .i64 (x967.2.1), .int .i64 (x967.2.2.1), .int .i64 (x967.2.2.2.1), .int .i64 (x967.2.2.2.2)], .agg #[.int .i64 (x971.1), .int .i64 (x971.2.1), .int .i64 (x971.2.2.1), .int .i64 (x971.2.2.2.1), .int .i64 (x971.2.2.2.2)]]) (by kernel_rfl) ent76 (c_impl_merge hy974) ?_
                  rintro _ w975 ⟨rfl, hc976⟩
                  replace F825 := F825.chg hc976 Dj.nil
                  replace F826 := F826.chg hc976 Dj.nil
                  replace F827 := F827.chg hc976 Dj.nil
                  replace F841 := F841.chg hc976 Dj.nil
                  replace hB := hB.inS hc976 inNil
                  have hSz := hS
                  replace hS := hS.inS hc976 inNil
                  replace hZ := Nat.le_trans hZ hc976.size
                  refine ⟨.tuple #[.agg #[.int .i64 (y973.1.1), .int .i64 (y973.1.2.1), .int .i64 (y973.1.2.2.1), .int .i64 (y973.1.2.2.2.1), .int .i64 (y973.1.2.2.2.2)], .int .i64 (y973.2.1), .int .i64 (y973.2.2.1), .bool (y973.2.2.2)], rfl, ?_⟩
                  refine wS_end (by kernel_rfl) ?_
                  refine eX_KH hS ?_
                  refine wH_take [13, 14, 15, 16, 17] [17, 16, 15, 14, 13, 12, 11, 10, 9, 8, 7, 6, 5, 4, 3, 2, 1, 0] [(69, .bool (y973.2.2.2)), (68, .int .i64 (y973.2.2.1)), (67, .int .i64 (y973.2.1)), (66, .agg #[.int .i64 (y973.1.1), .int .i64 (y973.1.2.1), .int .i64 (y973.1.2.2.1), .int .i64 (y973.1.2.2.2.1), .int .i64 (y973.1.2.2.2.2)]), (52, .tuple #[.agg #[.int .i64 (y973.1.1), .int .i64 (y973.1.2.1), .int .i64 (y973.1.2.2.1), .int .i64 (y973.1.2.2.2.1), .int .i64 (y973.1.2.2.2.2)], .int .i64 (y973.2.1), .int .i64 (y973.2.2.1), .bool (y973.2.2.2)])] (by kernel_rfl) (qT (qT (qT (qB (qT (qL (qB (qT (qT qZ))))))))) (by kernel_rfl) ?_
                  refine wH_all [18] (by rfl) (by kernel_rfl) (by simp) ⟨⟨by kernel_rfl, ?_⟩, trivial⟩
                  refine wS_alloc (d := 13) (T := 27) (z := .agg #[.int .i64 (0), .int .i64 (0), .int .i64 (0), .int .i64 (0), .int .i64 (0)]) (by kernel_rfl) (by kernel_rfl) ?_
                  intro b977 w978 G979 F980 hc981
                  replace F980 : Cl w978 b977 27 [.int .i64 (0), .int .i64 (0), .int .i64 (0), .int .i64 (0), .int .i64 (0)] := F980
                  have D983 : Dj fp94 [b977] := Dj.of F826.low (low1 G979)
                  have D984 : Dj fp820 [b977] := Dj.of F827.low (low1 G979)
                  replace F825 := F825.chg hc981 Dj.nil
                  replace F826 := F826.chg hc981 Dj.nil
                  replace F827 := F827.chg hc981 Dj.nil
                  replace F841 := F841.chg hc981 Dj.nil
                  replace hB := hB.inS hc981 inNil
                  have hSz := hS
                  replace hS := hS.inS hc981 inNil
                  have Gz985 := low1 (Nat.le_trans hSz.size G979)
                  replace G979 := Nat.le_trans hZ G979
                  replace hZ := Nat.le_trans hZ hc981.size
                  refine wS_end (by kernel_rfl) ?_
                  refine eX_KH hS ?_
                  refine wH_all [19] (by rfl) (by kernel_rfl) (by simp) ⟨⟨by kernel_rfl, ?_⟩, trivial⟩
                  refine wS_store (T := 27) (g := b977) (o := 0) (ad := ⟨b977, 0, none⟩) (v := .agg #[.int .i64 (y973.1.1), .int .i64 (y973.1.2.1), .int .i64 (y973.1.2.2.1), .int .i64 (y973.1.2.2.2.1), .int .i64 (y973.1.2.2.2.2)]) (vs := [.int .i64 (y973.1.1), .int .i64 (y973.1.2.1), .int .i64 (y973.1.2.2.1), .int .i64 (y973.1.2.2.2.1), .int .i64 (y973.1.2.2.2.2)]) (by kernel_rfl) (by rfl) sz27 (by rfl) (by rfl) F980 (by simp only [List.length_cons, List.length_nil]; omega) ?_
                  intro w986 F987 hc988
                  replace F825 := F825.chg hc988 (Dj.of L1 (low1 G979))
                  replace F826 := F826.chg hc988 D983
                  replace F827 := F827.chg hc988 D984
                  replace F841 := F841.chg hc988 (Dj.of L1 (low1 G979))
                  replace hB := hB.inS hc988 (inLow (low1 G979))
                  have hSz := hS
                  replace hS := hS.inS hc988 (inLow Gz985)
                  replace hZ := Nat.le_trans hZ hc988.size
                  replace F987 : Cl w986 b977 27 [.int .i64 (y973.1.1), .int .i64 (y973.1.2.1), .int .i64 (y973.1.2.2.1), .int .i64 (y973.1.2.2.2.1), .int .i64 (y973.1.2.2.2.2)] := F987
                  clear F980
                  refine wS_end (by kernel_rfl) ?_
                  refine eX_KH hS ?_
                  refine wH_take [20, 21] [21, 20, 19, 18, 17, 16, 15, 14, 13, 12, 11, 10, 9, 8, 7, 6, 5, 4, 3, 2, 1, 0] [(15, .int .i64 (y973.2.2.1)), (14, .int .i64 (y973.2.1))] (by kernel_rfl) (qT (qT (qT (qB (qT (qL (qB (qT (qT qZ))))))))) (by kernel_rfl) ?_
                  refine wH_done (by kernel_rfl) ?_
                  refine eX_tail ?_
                  refine wS_pure 1 [(16, .bool (y973.2.2.2))] (by kernel_rfl) ?_
                  refine wS_end (by rfl) ?_
                  have hq : (some ((y973.1.1, y973.1.2.1, y973.1.2.2.1, y973.1.2.2.2.1, y973.1.2.2.2.2, y973.2.1, y973.2.2.1, y973.2.2.2)) : Option (Int × Int × Int × Int × Int × Int × Int × Bool)) = some _ := hm
                  replace hq := someE hq
                  subst hq
                  exact eX_J (fun hst => ⟨b977, y973.1.1, y973.1.2.1, y973.1.2.2.1, y973.1.2.2.2.1, y973.1.2.2.2.2, y973.2.1, y973.2.2.1, y973.2.2.2, rfl, Fr.of hst (by kernel_rfl), F825, F826, F827, F841, F987, G979, D983, D984, hB, hZ⟩)
                · skip
                  refine wS_alloc (d := 13) (T := 27) (z := .agg #[.int .i64 (0), .int .i64 (0), .int .i64 (0), .int .i64 (0), .int .i64 (0)]) (by kernel_rfl) (by kernel_rfl) ?_
                  intro b989 w990 G991 F992 hc993
                  replace F992 : Cl w990 b989 27 [.int .i64 (0), .int .i64 (0), .int .i64 (0), .int .i64 (0), .int .i64 (0)] := F992
                  have D995 : Dj fp94 [b989] := Dj.of F826.low (low1 G991)
                  have D996 : Dj fp820 [b989] := Dj.of F827.low (low1 G991)
                  replace F825 := F825.chg hc993 Dj.nil
                  replace F826 := F826.chg hc993 Dj.nil
                  replace F827 := F827.chg hc993 Dj.nil
                  replace F841 := F841.chg hc993 Dj.nil
                  replace hB := hB.inS hc993 inNil
                  have hSz := hS
                  replace hS := hS.inS hc993 inNil
                  have Gz997 := low1 (Nat.le_trans hSz.size G991)
                  replace G991 := Nat.le_trans hZ G991
                  replace hZ := Nat.le_trans hZ hc993.size
                  refine wS_end (by kernel_rfl) ?_
                  refine eX_KH hS ?_
                  refine wH_all [12] (by rfl) (by kernel_rfl) (by simp) ⟨⟨by kernel_rfl, ?_⟩, trivial⟩
                  obtain ⟨y998, hy999, hm⟩ := bindE hm
                  refine wS_calls (d := 65) (f := 76) (vs := [.agg #[.int .i64 (x967.1), .int .i64 (x967.2.1), .int .i64 (x967.2.2.1), .int .i64 (x967.2.2.2.1), .int .i64 (x967.2.2.2.2)], .agg #[.int .i64 (x971.1), .int .i64 (x971.2.1), .int .i64 (x971.2.2.1), .int .i64 (x971.2.2.2.1), .int .i64 (x971.2.2.2.2)]]) (by kernel_rfl) ent76 (c_impl_merge hy999) ?_
                  rintro _ w1000 ⟨rfl, hc1001⟩
                  replace F825 := F825.chg hc1001 Dj.nil
                  replace F826 := F826.chg hc1001 Dj.nil
                  replace F827 := F827.chg hc1001 Dj.nil
                  replace F841 := F841.chg hc1001 Dj.nil
                  replace F992 := F992.chg hc1001 notNil
                  replace hB := hB.inS hc1001 inNil
                  have hSz := hS
                  replace hS := hS.inS hc1001 inNil
                  replace hZ := Nat.le_trans hZ hc1001.size
                  refine ⟨.tuple #[.agg #[.int .i64 (y998.1.1), .int .i64 (y998.1.2.1), .int .i64 (y998.1.2.2.1), .int .i64 (y998.1.2.2.2.1), .int .i64 (y998.1.2.2.2.2)], .int .i64 (y998.2.1), .int .i64 (y998.2.2.1), .bool (y998.2.2.2)], rfl, ?_⟩
                  refine wS_end (by kernel_rfl) ?_
                  refine eX_KH hS ?_
                  refine wH_take [13, 14, 15, 16, 17] [17, 16, 15, 14, 13, 12, 18, 11, 10, 9, 8, 7, 6, 5, 4, 3, 2, 1, 0] [(69, .bool (y998.2.2.2)), (68, .int .i64 (y998.2.2.1)), (67, .int .i64 (y998.2.1)), (66, .agg #[.int .i64 (y998.1.1), .int .i64 (y998.1.2.1), .int .i64 (y998.1.2.2.1), .int .i64 (y998.1.2.2.2.1), .int .i64 (y998.1.2.2.2.2)]), (52, .tuple #[.agg #[.int .i64 (y998.1.1), .int .i64 (y998.1.2.1), .int .i64 (y998.1.2.2.1), .int .i64 (y998.1.2.2.2.1), .int .i64 (y998.1.2.2.2.2)], .int .i64 (y998.2.1), .int .i64 (y998.2.2.1), .bool (y998.2.2.2)])] (by kernel_rfl) (qT (qT (qT (qB (qT (qL (qB (qT (qT qZ))))))))) (by kernel_rfl) ?_
                  refine wH_all [19] (by rfl) (by kernel_rfl) (by simp) ⟨⟨by kernel_rfl, ?_⟩, trivial⟩
                  refine wS_store (T := 27) (g := b989) (o := 0) (ad := ⟨b989, 0, none⟩) (v := .agg #[.int .i64 (y998.1.1), .int .i64 (y998.1.2.1), .int .i64 (y998.1.2.2.1), .int .i64 (y998.1.2.2.2.1), .int .i64 (y998.1.2.2.2.2)]) (vs := [.int .i64 (y998.1.1), .int .i64 (y998.1.2.1), .int .i64 (y998.1.2.2.1), .int .i64 (y998.1.2.2.2.1), .int .i64 (y998.1.2.2.2.2)]) (by kernel_rfl) (by rfl) sz27 (by rfl) (by rfl) F992 (by simp only [List.length_cons, List.length_nil]; omega) ?_
                  intro w1002 F1003 hc1004
                  replace F825 := F825.chg hc1004 (Dj.of L1 (low1 G991))
                  replace F826 := F826.chg hc1004 D995
                  replace F827 := F827.chg hc1004 D996
                  replace F841 := F841.chg hc1004 (Dj.of L1 (low1 G991))
                  replace hB := hB.inS hc1004 (inLow (low1 G991))
                  have hSz := hS
                  replace hS := hS.inS hc1004 (inLow Gz997)
                  replace hZ := Nat.le_trans hZ hc1004.size
                  replace F1003 : Cl w1002 b989 27 [.int .i64 (y998.1.1), .int .i64 (y998.1.2.1), .int .i64 (y998.1.2.2.1), .int .i64 (y998.1.2.2.2.1), .int .i64 (y998.1.2.2.2.2)] := F1003
                  clear F992
                  refine wS_end (by kernel_rfl) ?_
                  refine eX_KH hS ?_
                  refine wH_take [20, 21] [21, 20, 19, 17, 16, 15, 14, 13, 12, 18, 11, 10, 9, 8, 7, 6, 5, 4, 3, 2, 1, 0] [(15, .int .i64 (y998.2.2.1)), (14, .int .i64 (y998.2.1))] (by kernel_rfl) (qT (qT (qT (qB (qT (qL (qB (qT (qT qZ))))))))) (by kernel_rfl) ?_
                  refine wH_done (by kernel_rfl) ?_
                  refine eX_tail ?_
                  refine wS_pure 1 [(16, .bool (y998.2.2.2))] (by kernel_rfl) ?_
                  refine wS_end (by rfl) ?_
                  have hq : (some ((y998.1.1, y998.1.2.1, y998.1.2.2.1, y998.1.2.2.2.1, y998.1.2.2.2.2, y998.2.1, y998.2.2.1, y998.2.2.2)) : Option (Int × Int × Int × Int × Int × Int × Int × Bool)) = some _ := hm
                  replace hq := someE hq
                  subst hq
                  exact eX_J (fun hst => ⟨b989, y998.1.1, y998.1.2.1, y998.1.2.2.1, y998.1.2.2.2.1, y998.1.2.2.2.2, y998.2.1, y998.2.2.1, y998.2.2.2, rfl, Fr.of hst (by kernel_rfl), F825, F826, F827, F841, F1003, G991, D995, D996, hB, hZ⟩)
              · rintro a' w937 ⟨b938, x939, x940, x941, x942, x943, x945, x946, x947, hJ, hF948, F949, F950, F951, F952, F953, G954, D955, D956, hB, hZ⟩
                subst hJ
                refine Fr.goX hF948 (by kernel_rfl) ?_
                refine eX_then ?_
                refine cW_seq ?_
                refine cW_seq ?_
                refine cW_region ?_
                refine wS_pure 2 [(71, .bool (!x947)), (70, .bool (x947))] (by kernel_rfl) ?_
                refine wS_end (by rfl) ?_
                refine eX_then ?_
                refine cW_cond (t := !x947) (by kernel_rfl) (fun hb1005 => ?_) (fun hb1005 => ?_)
                · have hm := condT hb1005 hm
                  refine cW_seq ?_
                  refine cW_region ?_
                  refine wS_pure 3 [(6, .bool (false)), (5, .slice none 0 0), (4, .slice none 0 0)] (by kernel_rfl) ?_
                  refine wS_end (by rfl) ?_
                  refine eX_then ?_
                  refine cW_ret ?_
                  refine eX_then_ret ?_
                  refine eX_block_ret ?_
                  refine eX_then_ret ?_
                  have hq : (some (Ctl.out (Sum.inr (([], [], false)))) : Option (Ctl ((List (Int × Int × Int × Int × Int)) × Int × (List (Int))) (Sum ((List (Int × Int × Int × Int × Int)) × (List (Int))) ((List (Int × Int × Int × Int × Int)) × (List (Int)) × (Bool))))) = some _ := hm
                  replace hq := someE hq
                  subst hq
                  refine eX_outR hx835 (fun hr => ?_)
                  subst hr
                  refine eX_block_ret ?_
                  refine eX_then_ret ?_
                  refine eX_then_ret ?_
                  have hq : (some (([], [], false)) : Option ((List (Int × Int × Int × Int × Int)) × (List (Int)) × (Bool))) = some _ := hm832
                  replace hq := someE hq
                  subst hq
                  refine eX_ret (vs := [.slice none 0 0, .slice none 0 0, .bool (false)]) [.tmp 4, .tmp 5, .tmp 6] (by rfl) ⟨by (show lkE _ _ _ = _); kernel_rfl, ⟨by (show lkE _ _ _ = _); kernel_rfl, ⟨by (show lkE _ _ _ = _); kernel_rfl, trivial⟩⟩⟩ ?_
                  exact ⟨none, 0, [], none, 0, [], rfl, Ow.nil _, lowNil, Ow.nil _, lowNil, Dj.nil, hB⟩
                · have hm := condF hb1005 hm
                  refine cW_skip ?_
                  refine eX_then ?_
                  refine cW_seq ?_
                  refine cW_region ?_
                  refine wS_pure 1 [(72, .slice A818 (l817).length cap819)] (by kernel_rfl) ?_
                  refine wS_loadA (d := 73) (T := 27) (ad := ⟨b938, 0, none⟩) (vs := [.int .i64 (x939), .int .i64 (x940), .int .i64 (x941), .int .i64 (x942), .int .i64 (x943)]) (by kernel_rfl) vt27 (fun i u hu => box_cells F953 0 hu (by rfl)) ?_
                  refine wS_bs (enc := encIIIII) ([(x939, x940, x941, x942, x943)] : List (Int × Int × Int × Int × Int)) [.int .i64 (x939), .int .i64 (x940), .int .i64 (x941), .int .i64 (x942), .int .i64 (x943)] (d := 74) (t := 61) (T := 27) (n := 1) (ps := [(0, .agg #[.int .i64 (x939), .int .i64 (x940), .int .i64 (x941), .int .i64 (x942), .int .i64 (x943)])]) (by kernel_rfl) el61 encIIIII_ok (by rfl) (by omega) (by omega) (by kernel_rfl) (by rfl) ?_
                  intro b1006 w1007 G1008 F1009 hc1010
                  have D1012 : Dj fp94 [b1006] := Dj.of F950.low (low1 G1008)
                  have D1013 : Dj fp820 [b1006] := Dj.of F951.low (low1 G1008)
                  have D1014 : Dj [b938] [b1006] := Dj.of (lt1 F953.lt) (low1 G1008)
                  replace F949 := F949.chg hc1010 Dj.nil
                  replace F950 := F950.chg hc1010 Dj.nil
                  replace F951 := F951.chg hc1010 Dj.nil
                  replace F952 := F952.chg hc1010 Dj.nil
                  replace F953 := F953.chg hc1010 notNil
                  replace hB := hB.inS hc1010 inNil
                  replace G1008 := Nat.le_trans hZ G1008
                  replace G1008 := low1 G1008
                  replace hZ := Nat.le_trans hZ hc1010.size
                  obtain ⟨_, hk1015, hm⟩ := bindE hm
                  replace hk1015 := apE hk1015
                  refine wS_append (enc := encIIIII) (l := (l817 : List (Int × Int × Int × Int × Int))) (l2 := (([(x939, x940, x941, x942, x943)] : List (Int × Int × Int × Int × Int)) : List (Int × Int × Int × Int × Int))) (d := 75) (t := 61) (T := 27) (A := A818) (A2 := (some ⟨b1006, 0, none⟩)) (cap := cap819) (cap2 := 1) (by kernel_rfl) el61 encIIIII_ok F951 (F1009.sl encIIIII_ok) (by rfl) hk1015 ?_
                  intro w1016 fp1017 A1018 cap1019 F1020 hc1021 hp1022
                  have G1024 := low_ap G828 hZ hp1022
                  have D1025 : Dj fp94 fp1017 := Dj.ap D829 F950.low hp1022
                  have D1026 : Dj [b938] fp1017 := Dj.ap (D956).symm (lt1 F953.lt) hp1022
                  have D1027 : Dj [b1006] fp1017 := Dj.ap (D1013).symm F1009.low hp1022
                  replace F949 := F949.chg hc1021 (Dj.of L1 G828)
                  replace F950 := F950.chg hc1021 D829
                  replace F952 := F952.chg hc1021 (Dj.of L1 G828)
                  replace F953 := F953.chg hc1021 (dj1 (D956).symm)
                  replace F1009 := F1009.chg hc1021 (D1013).symm
                  replace hB := hB.inS hc1021 (inLow G828)
                  replace hZ := Nat.le_trans hZ hc1021.size
                  refine wS_pure 1 [(7, .slice A1018 (l817 ++ (([(x939, x940, x941, x942, x943)] : List (Int × Int × Int × Int × Int)))).length cap1019)] (by kernel_rfl) ?_
                  refine wS_end (by rfl) ?_
                  refine eX_then ?_
                  refine cW_drawnTail fp94 12 (by kernel_rfl) (by kernel_rfl) (fun w1050 hc1051 => ?_)
                  replace F949 := F949.chg hc1051 Dj.nil
                  replace F950 := F950.chg hc1051 Dj.nil
                  replace F952 := F952.chg hc1051 Dj.nil
                  replace F953 := F953.chg hc1051 notNil
                  replace F1009 := F1009.chg hc1051 Dj.nil
                  replace F1020 := F1020.chg hc1051 Dj.nil
                  replace hB := hB.inS hc1051 inNil
                  replace hZ := Nat.le_trans hZ hc1051.size
                  have hS := Chg.refl fp94 w1050
                  have Z1052 := F949
                  have Z1053 := F950
                  have Z1054 := F952
                  have Z1055 := F953
                  have Z1056 := F1009
                  have Z1057 := F1020
                  refine wH_take [0, 1] [1, 0] [(77, .slice A839 (x837).length cap840), (76, .slice A92 (l823).length cap93)] (by kernel_rfl) (qT (qB (qT (qL (qB (qT (qT qZ))))))) (by kernel_rfl) ?_
                  obtain ⟨x1058, hx1059, hm⟩ := bindE hm
                  refine wH_idx (i := 2) (d := 78) (T := 38) (A := A839) (n := (x837).length) (cap := cap840) (kd := .i64) (m := 0) (by kernel_rfl) (qT (qB (qT (qL (qB (qT (qT qZ))))))) (by kernel_rfl) (by kernel_rfl) sl38 (F952.is hx1059) ?_
                  refine wH_load1 (i := 3) (d := 79) (T := 2) (ad := (elA A839 1 (0) 0)) (v := .int .i64 (x1058)) (by kernel_rfl) (qT (qB (qT (qL (qB (qT (qT qZ))))))) (by kernel_rfl) (by kernel_rfl) vt2 (fun W hW => Sl.cell (Z1054.chg hW (Dj.of L1 G102)) hx1059 0 (by rfl)) ?_
                  refine wH_take [4, 5] [5, 4, 3, 2, 1, 0] [(81, .slice A839 (x837).length cap840), (80, .slice A92 (l823).length cap93)] (by kernel_rfl) (qT (qB (qT (qL (qB (qT (qT qZ))))))) (by kernel_rfl) ?_
                  obtain ⟨x1060, hx1061, hm⟩ := bindE hm
                  refine wH_idx (i := 6) (d := 82) (T := 38) (A := A839) (n := (x837).length) (cap := cap840) (kd := .i64) (m := 1) (by kernel_rfl) (qT (qB (qT (qL (qB (qT (qT qZ))))))) (by kernel_rfl) (by kernel_rfl) sl38 (F952.is hx1061) ?_
                  refine wH_load1 (i := 7) (d := 83) (T := 2) (ad := (elA A839 1 (1) 0)) (v := .int .i64 (x1060)) (by kernel_rfl) (qT (qB (qT (qL (qB (qT (qT qZ))))))) (by kernel_rfl) (by kernel_rfl) vt2 (fun W hW => Sl.cell (Z1054.chg hW (Dj.of L1 G102)) hx1061 0 (by rfl)) ?_
                  refine wH_take [8, 9] [9, 8, 7, 6, 5, 4, 3, 2, 1, 0] [(85, .int .i64 (x946)), (84, .int .i64 (x945))] (by kernel_rfl) (qT (qB (qT (qL (qB (qT (qT qZ))))))) (by kernel_rfl) ?_
                  obtain ⟨x1062, hx1063, hm⟩ := bindE hm
                  refine wH_idx (i := 10) (d := 86) (T := 38) (A := A92) (n := (l823).length) (cap := cap93) (kd := .i64) (m := x1058) (by kernel_rfl) (qT (qB (qT (qL (qB (qT (qT qZ))))))) (by kernel_rfl) (by kernel_rfl) sl38 ((F950.sl encI_ok).is hx1063) ?_
                  refine wH_all [11] (by rfl) (by kernel_rfl) (by simp) ⟨⟨by kernel_rfl, ?_⟩, trivial⟩
                  refine wS_storeEl (x := x1062) x945 (T := 2) (U := 2) (cap := cap93) (j := 0) (A := A92) (v := .int .i64 (x945)) (vs := [.int .i64 (x945)]) (m := x1058) (by kernel_rfl) (by rfl) sz2 (by rfl) encI_ok F950 hx1063 (by simp only [List.length_cons, List.length_nil]; omega) (by rfl) ?_
                  intro w1064 F1065 hc1066
                  replace F949 := F949.chg hc1066 (Dj.of L1 G102)
                  replace F952 := F952.chg hc1066 (Dj.of L1 G102)
                  replace F953 := F953.chg hc1066 (dj1 (D955).symm)
                  replace F1009 := F1009.chg hc1066 (D1012).symm
                  replace F1020 := F1020.chg hc1066 (D1025).symm
                  replace hB := hB.inS hc1066 (inLow G102)
                  have hSz := hS
                  replace hS := hS.trans hc1066
                  replace hZ := Nat.le_trans hZ hc1066.size
                  clear F950
                  rewrite [show (l823).length = (l823.set (Int.toNat x1058) x945).length from (List.length_set ..).symm]
                  refine wS_end (by kernel_rfl) ?_
                  refine eX_KH hS ?_
                  refine wH_done (by kernel_rfl) ?_
                  refine eX_tail ?_
                  obtain ⟨x1067, hx1068, hm⟩ := bindE hm
                  refine wS_idx (d := 87) (T := 38) (A := A92) (n := (l823.set (Int.toNat x1058) x945).length) (cap := cap93) (kd := .i64) (m := x1060) (by kernel_rfl) sl38 ((F1065.sl encI_ok).is hx1068) ?_
                  refine wS_storeEl (x := x1067) x946 (T := 2) (U := 2) (cap := cap93) (j := 0) (A := A92) (v := .int .i64 (x946)) (vs := [.int .i64 (x946)]) (m := x1060) (by kernel_rfl) (by rfl) sz2 (by rfl) encI_ok F1065 hx1068 (by simp only [List.length_cons, List.length_nil]; omega) (by rfl) ?_
                  intro w1069 F1070 hc1071
                  replace F949 := F949.chg hc1071 (Dj.of L1 G102)
                  replace F952 := F952.chg hc1071 (Dj.of L1 G102)
                  replace F953 := F953.chg hc1071 (dj1 (D955).symm)
                  replace F1009 := F1009.chg hc1071 (D1012).symm
                  replace F1020 := F1020.chg hc1071 (D1025).symm
                  replace hB := hB.inS hc1071 (inLow G102)
                  replace hZ := Nat.le_trans hZ hc1071.size
                  clear F1065
                  rewrite [show (l823.set (Int.toNat x1058) x945).length = ((l823.set (Int.toNat x1058) x945).set (Int.toNat x1060) x946).length from (List.length_set ..).symm]
                  refine wS_end (by rfl) ?_
                  refine eX_block ?_
                  refine eX_then ?_
                  refine cW_prune [(7, .slice A1018 (l817 ++ (([(x939, x940, x941, x942, x943)] : List (Int × Int × Int × Int × Int)))).length cap1019), (8, .slice A92 ((l823.set (Int.toNat x1058) x945).set (Int.toNat x1060) x946).length cap93), (46, .slice A1 (l1).length cap1), (47, .int .i64 (((l1).length : Int))), (48, .int .i64 (x822))] (by kernel_rfl) (by kernel_rfl) (fun a1072 => ?_)
                  refine cW_region ?_
                  refine wS_pure 2 [(48, .int .i64 (wr (x822 + 1))), (88, .int .i64 (wr (x822 + 1)))] (by kernel_rfl) ?_
                  refine wS_end (by rfl) ?_
                  have hq : (some (Ctl.next ((l817 ++ (([(x939, x940, x941, x942, x943)] : List (Int × Int × Int × Int × Int))), wr (x822 + 1), (l823.set (Int.toNat x1058) x945).set (Int.toNat x1060) x946))) : Option (Ctl ((List (Int × Int × Int × Int × Int)) × Int × (List (Int))) (Sum ((List (Int × Int × Int × Int × Int)) × (List (Int))) ((List (Int × Int × Int × Int × Int)) × (List (Int)) × (Bool))))) = some _ := hm
                  replace hq := someE hq
                  subst hq
                  exact eX_next hx835 (fun hst => ⟨l817 ++ (([(x939, x940, x941, x942, x943)] : List (Int × Int × Int × Int × Int))), A1018, cap1019, fp1017, wr (x822 + 1), (l823.set (Int.toNat x1058) x945).set (Int.toNat x1060) x946, rfl, Fr.of hst (by kernel_rfl), F949, F1070, F1020, G1024, D1025, hB, hZ⟩)
            · have hm := condF hb836 hm
              refine cW_exit ?_
              refine eX_then_exit ?_
              have hq : (some (Ctl.out (Sum.inl ((l817, l823)))) : Option (Ctl ((List (Int × Int × Int × Int × Int)) × Int × (List (Int))) (Sum ((List (Int × Int × Int × Int × Int)) × (List (Int))) ((List (Int × Int × Int × Int × Int)) × (List (Int)) × (Bool))))) = some _ := hm
              replace hq := someE hq
              subst hq
              refine eX_outX hx835 (fun hr1073 => ?_)
              replace hr1073 := hr1073.symm
              subst hr1073
              refine eX_block_hit ?_
              exact eX_J (fun hst => ⟨l817, A818, cap819, fp820, l823, rfl, Fr.of hst (by kernel_rfl), F826, F827, G828, D829, hB, hZ⟩)
          · rintro a' w804 ⟨l805, A806, cap807, fp808, l810, hJ, hF811, F812, F813, G814, D815, hB, hZ⟩
            subst hJ
            refine Fr.goX hF811 (by kernel_rfl) ?_
            refine eX_then ?_
            refine cW_seq ?_
            refine cW_region ?_
            refine wS_pure 5 [(6, .bool (true)), (5, .slice A92 (l810).length cap93), (4, .slice A806 (l805).length cap807), (90, .slice A92 (l810).length cap93), (89, .slice A806 (l805).length cap807)] (by kernel_rfl) ?_
            refine wS_end (by rfl) ?_
            refine eX_then ?_
            refine cW_ret ?_
            have hq : (some ((l805, l810, true)) : Option ((List (Int × Int × Int × Int × Int)) × (List (Int)) × (Bool))) = some _ := hm
            replace hq := someE hq
            subst hq
            refine eX_ret (vs := [.slice A806 (l805).length cap807, .slice A92 (l810).length cap93, .bool (true)]) [.tmp 4, .tmp 5, .tmp 6] (by rfl) ⟨by (show lkE _ _ _ = _); kernel_rfl, ⟨by (show lkE _ _ _ = _); kernel_rfl, ⟨by (show lkE _ _ _ = _); kernel_rfl, trivial⟩⟩⟩ ?_
            exact ⟨A806, cap807, fp808, A92, cap93, fp94, rfl, F813, G814, F812, G102, (D815).symm, hB⟩

set_option maxRecDepth 100000 in
/-- impl.ClockMerges -/
theorem c_impl_ClockMerges {w0 : World} {l0 : List (Int × Int)} {A0 : Option Addr} {cap0 : Nat} {fp0 : List Nat} {l1 : List (List (Int))} {A1 : Option Addr} {cap1 : Nat} {fp1 : List Nat} {r : (List (Int × Int × Int × Int × Int)) × (Bool)} (hm : m_impl_ClockMerges l0 l1 = some r) (F0 : Sl 2 encII w0 fp0 A0 l0) (F1 : SlR 1 encI w0 fp1 A1 l1) :
    Calls Try.prog 40 #[.slice A0 (l0).length cap0, .slice A1 (l1).length cap1] w0 fun e w' => ∃ A100 cap100 fp100, e = .returned (.tuple #[.slice A100 (r.1).length cap100, .bool (r.2)]) ∧ Ow 5 encIIIII 27 w' fp100 A100 cap100 r.1 ∧ (∀ x ∈ fp100, w0.heap.size ≤ x) ∧ Chg [] w0 w' := by
  have L0 := F0.low
  have L1 := F1.low
  have hB : Chg [] w0 w0 := Chg.refl _ _
  have hZ := Nat.le_refl w0.heap.size
  unfold m_impl_ClockMerges at hm
  refine enterE (N := 18) Try.func40 (by rfl) Try.ntmps40 (by simp) [(0, .slice A0 (l0).length cap0), (1, .slice A1 (l1).length cap1)] (by rfl) (by kernel_rfl) (fun a => ?_)
  refine cW_seq ?_
  refine cW_region ?_
  refine wS_pure 2 [(5, .bool (false)), (4, .slice none 0 0)] (by kernel_rfl) ?_
  refine wS_end (by rfl) ?_
  refine eX_then ?_
  refine cW_seq ?_
  refine cW_region ?_
  refine wS_pure 2 [(11, .slice A1 (l1).length cap1), (10, .slice A0 (l0).length cap0)] (by kernel_rfl) ?_
  obtain ⟨y3, hy4, hm⟩ := bindE hm
  refine wS_calls (d := 12) (f := 96) (vs := [.slice A0 (l0).length cap0, .slice A1 (l1).length cap1]) (by kernel_rfl) ent96 (c_impl_tree hy4 F0 F1) ?_
  rintro _ w5 ⟨A7, cap8, fp9, A13, cap14, fp15, rfl, F10, G11, F16, G17, D19, hc6⟩
  replace F0 := F0.chg hc6 Dj.nil
  replace F1 := F1.chg hc6 Dj.nil
  replace hB := hB.inS hc6 inNil
  replace G11 := low_le hZ G11
  replace G17 := low_le hZ G17
  replace hZ := Nat.le_trans hZ hc6.size
  refine ⟨.tuple #[.slice A7 (y3.1).length cap8, .slice A13 (y3.2.1).length cap14, .bool (y3.2.2)], rfl, ?_⟩
  refine wS_pure 7 [(8, .bool (y3.2.2)), (7, .slice A13 (y3.2.1).length cap14), (6, .slice A7 (y3.1).length cap8), (15, .bool (y3.2.2)), (14, .slice A13 (y3.2.1).length cap14), (13, .slice A7 (y3.1).length cap8), (9, .tuple #[.slice A7 (y3.1).length cap8, .slice A13 (y3.2.1).length cap14, .bool (y3.2.2)])] (by kernel_rfl) ?_
  refine wS_end (by rfl) ?_
  refine eX_then ?_
  refine cW_seq ?_
  refine cW_region ?_
  refine wS_pure 4 [(5, .bool (y3.2.2)), (4, .slice A7 (y3.1).length cap8), (17, .bool (y3.2.2)), (16, .slice A7 (y3.1).length cap8)] (by kernel_rfl) ?_
  refine wS_end (by rfl) ?_
  refine eX_then ?_
  refine cW_ret ?_
  have hq : (some ((y3.1, y3.2.2)) : Option ((List (Int × Int × Int × Int × Int)) × (Bool))) = some _ := hm
  replace hq := someE hq
  subst hq
  refine eX_ret (vs := [.slice A7 (y3.1).length cap8, .bool (y3.2.2)]) [.tmp 4, .tmp 5] (by rfl) ⟨by (show lkE _ _ _ = _); kernel_rfl, ⟨by (show lkE _ _ _ = _); kernel_rfl, trivial⟩⟩ ?_
  exact ⟨A7, cap8, fp9, rfl, F10, G11, hB⟩

set_option maxRecDepth 100000 in
/-- impl.ClockWires -/
theorem c_impl_ClockWires {w0 : World} {l0 : List (Int × Int)} {A0 : Option Addr} {cap0 : Nat} {fp0 : List Nat} {l1 : List (List (Int))} {A1 : Option Addr} {cap1 : Nat} {fp1 : List Nat} {r : (List (Int)) × (Bool)} (hm : m_impl_ClockWires l0 l1 = some r) (F0 : Sl 2 encII w0 fp0 A0 l0) (F1 : SlR 1 encI w0 fp1 A1 l1) :
    Calls Try.prog 41 #[.slice A0 (l0).length cap0, .slice A1 (l1).length cap1] w0 fun e w' => ∃ A100 cap100 fp100, e = .returned (.tuple #[.slice A100 (r.1).length cap100, .bool (r.2)]) ∧ Ow 1 encI 2 w' fp100 A100 cap100 r.1 ∧ (∀ x ∈ fp100, w0.heap.size ≤ x) ∧ Chg [] w0 w' := by
  have L0 := F0.low
  have L1 := F1.low
  have hB : Chg [] w0 w0 := Chg.refl _ _
  have hZ := Nat.le_refl w0.heap.size
  unfold m_impl_ClockWires at hm
  refine enterE (N := 18) Try.func41 (by rfl) Try.ntmps41 (by simp) [(0, .slice A0 (l0).length cap0), (1, .slice A1 (l1).length cap1)] (by rfl) (by kernel_rfl) (fun a => ?_)
  refine cW_seq ?_
  refine cW_region ?_
  refine wS_pure 2 [(5, .bool (false)), (4, .slice none 0 0)] (by kernel_rfl) ?_
  refine wS_end (by rfl) ?_
  refine eX_then ?_
  refine cW_seq ?_
  refine cW_region ?_
  refine wS_pure 2 [(11, .slice A1 (l1).length cap1), (10, .slice A0 (l0).length cap0)] (by kernel_rfl) ?_
  obtain ⟨y3, hy4, hm⟩ := bindE hm
  refine wS_calls (d := 12) (f := 96) (vs := [.slice A0 (l0).length cap0, .slice A1 (l1).length cap1]) (by kernel_rfl) ent96 (c_impl_tree hy4 F0 F1) ?_
  rintro _ w5 ⟨A7, cap8, fp9, A13, cap14, fp15, rfl, F10, G11, F16, G17, D19, hc6⟩
  replace F0 := F0.chg hc6 Dj.nil
  replace F1 := F1.chg hc6 Dj.nil
  replace hB := hB.inS hc6 inNil
  replace G11 := low_le hZ G11
  replace G17 := low_le hZ G17
  replace hZ := Nat.le_trans hZ hc6.size
  refine ⟨.tuple #[.slice A7 (y3.1).length cap8, .slice A13 (y3.2.1).length cap14, .bool (y3.2.2)], rfl, ?_⟩
  refine wS_pure 7 [(8, .bool (y3.2.2)), (7, .slice A13 (y3.2.1).length cap14), (6, .slice A7 (y3.1).length cap8), (15, .bool (y3.2.2)), (14, .slice A13 (y3.2.1).length cap14), (13, .slice A7 (y3.1).length cap8), (9, .tuple #[.slice A7 (y3.1).length cap8, .slice A13 (y3.2.1).length cap14, .bool (y3.2.2)])] (by kernel_rfl) ?_
  refine wS_end (by rfl) ?_
  refine eX_then ?_
  refine cW_seq ?_
  refine cW_region ?_
  refine wS_pure 4 [(5, .bool (y3.2.2)), (4, .slice A13 (y3.2.1).length cap14), (17, .bool (y3.2.2)), (16, .slice A13 (y3.2.1).length cap14)] (by kernel_rfl) ?_
  refine wS_end (by rfl) ?_
  refine eX_then ?_
  refine cW_ret ?_
  have hq : (some ((y3.2.1, y3.2.2)) : Option ((List (Int)) × (Bool))) = some _ := hm
  replace hq := someE hq
  subst hq
  refine eX_ret (vs := [.slice A13 (y3.2.1).length cap14, .bool (y3.2.2)]) [.tmp 4, .tmp 5] (by rfl) ⟨by (show lkE _ _ _ = _); kernel_rfl, ⟨by (show lkE _ _ _ = _); kernel_rfl, trivial⟩⟩ ?_
  exact ⟨A13, cap14, fp15, rfl, F16, G17, hB⟩

set_option maxRecDepth 100000 in
/-- impl.nearest -/
theorem c_impl_nearest {w0 : World} {p0 : Int} {p1 : Int} {p2 : Int} {r : (Int)} (hm : m_impl_nearest p0 p1 p2 = some r)  :
    Calls Try.prog 97 #[.int .i64 (p0), .int .i64 (p1), .int .i64 (p2)] w0 fun e w' => e = .returned (.int .i64 (r)) ∧ Chg [] w0 w' := by
  have hB : Chg [] w0 w0 := Chg.refl _ _
  have hZ := Nat.le_refl w0.heap.size
  unfold m_impl_nearest at hm
  refine enterE (N := 12) Try.func97 (by rfl) Try.ntmps97 (by simp) [(0, .int .i64 (p0)), (1, .int .i64 (p1)), (2, .int .i64 (p2))] (by rfl) (by kernel_rfl) (fun a => ?_)
  refine cW_seq ?_
  refine cW_region ?_
  refine wS_pure 1 [(6, .int .i64 (0))] (by kernel_rfl) ?_
  refine wS_end (by rfl) ?_
  refine eX_then ?_
  refine cW_seq ?_
  refine cW_region ?_
  refine wS_pure 6 [(6, .int .i64 (if (if p2 < p0 then p2 else p0) > p1 then (if p2 < p0 then p2 else p0) else p1)), (11, .int .i64 (if (if p2 < p0 then p2 else p0) > p1 then (if p2 < p0 then p2 else p0) else p1)), (10, .int .i64 (if p2 < p0 then p2 else p0)), (9, .int .i64 (p2)), (8, .int .i64 (p0)), (7, .int .i64 (p1))] (by kernel_rfl) ?_
  refine wS_end (by rfl) ?_
  refine eX_then ?_
  refine cW_ret ?_
  have hq : (some (if (if p2 < p0 then p2 else p0) > p1 then (if p2 < p0 then p2 else p0) else p1) : Option ((Int))) = some _ := hm
  replace hq := someE hq
  subst hq
  refine eX_ret (vs := [.int .i64 (if (if p2 < p0 then p2 else p0) > p1 then (if p2 < p0 then p2 else p0) else p1)]) [.tmp 6] (by rfl) ⟨by (show lkE _ _ _ = _); kernel_rfl, trivial⟩ ?_
  exact ⟨rfl, hB⟩

set_option maxRecDepth 100000 in
/-- impl.ClockPlaces -/
theorem c_impl_ClockPlaces {w0 : World} {l0 : List (Int × Int)} {A0 : Option Addr} {cap0 : Nat} {fp0 : List Nat} {l1 : List (List (Int))} {A1 : Option Addr} {cap1 : Nat} {fp1 : List Nat} {r : (List (List (Int))) × (Bool)} (hm : m_impl_ClockPlaces l0 l1 = some r) (F0 : Sl 2 encII w0 fp0 A0 l0) (F1 : SlR 1 encI w0 fp1 A1 l1) :
    Calls Try.prog 42 #[.slice A0 (l0).length cap0, .slice A1 (l1).length cap1] w0 fun e w' => ∃ A100 cap100 fp100 fr100, e = .returned (.tuple #[.slice A100 (r.1).length cap100, .bool (r.2)]) ∧ OwR 1 encI 38 2 w' fp100 fr100 A100 cap100 r.1 ∧ (∀ x ∈ fp100 ++ fr100, w0.heap.size ≤ x) ∧ Chg [] w0 w' := by
  have L0 := F0.low
  have L1 := F1.low
  have hB : Chg [] w0 w0 := Chg.refl _ _
  have hZ := Nat.le_refl w0.heap.size
  unfold m_impl_ClockPlaces at hm
  refine enterE (N := 97) Try.func42 (by rfl) Try.ntmps42 (by simp) [(0, .slice A0 (l0).length cap0), (1, .slice A1 (l1).length cap1)] (by rfl) (by kernel_rfl) (fun a => ?_)
  refine cW_seq ?_
  refine cW_region ?_
  refine wS_pure 2 [(5, .bool (false)), (4, .slice none 0 0)] (by kernel_rfl) ?_
  refine wS_end (by rfl) ?_
  refine eX_then ?_
  refine cW_seq ?_
  refine cW_region ?_
  refine wS_pure 2 [(18, .slice A1 (l1).length cap1), (17, .slice A0 (l0).length cap0)] (by kernel_rfl) ?_
  obtain ⟨y3, hy4, hm⟩ := bindE hm
  refine wS_calls (d := 19) (f := 96) (vs := [.slice A0 (l0).length cap0, .slice A1 (l1).length cap1]) (by kernel_rfl) ent96 (c_impl_tree hy4 F0 F1) ?_
  rintro _ w5 ⟨A7, cap8, fp9, A13, cap14, fp15, rfl, F10, G11, F16, G17, D19, hc6⟩
  replace F0 := F0.chg hc6 Dj.nil
  replace F1 := F1.chg hc6 Dj.nil
  replace hB := hB.inS hc6 inNil
  replace G11 := low_le hZ G11
  replace G17 := low_le hZ G17
  replace hZ := Nat.le_trans hZ hc6.size
  refine ⟨.tuple #[.slice A7 (y3.1).length cap8, .slice A13 (y3.2.1).length cap14, .bool (y3.2.2)], rfl, ?_⟩
  refine wS_pure 7 [(8, .bool (y3.2.2)), (7, .slice A13 (y3.2.1).length cap14), (6, .slice A7 (y3.1).length cap8), (22, .bool (y3.2.2)), (21, .slice A13 (y3.2.1).length cap14), (20, .slice A7 (y3.1).length cap8), (16, .tuple #[.slice A7 (y3.1).length cap8, .slice A13 (y3.2.1).length cap14, .bool (y3.2.2)])] (by kernel_rfl) ?_
  refine wS_end (by rfl) ?_
  refine eX_then ?_
  refine cW_seq ?_
  refine cW_seq ?_
  refine cW_region ?_
  refine wS_pure 2 [(24, .bool (!y3.2.2)), (23, .bool (y3.2.2))] (by kernel_rfl) ?_
  refine wS_end (by rfl) ?_
  refine eX_then ?_
  refine cW_cond (t := !y3.2.2) (by kernel_rfl) (fun hb22 => ?_) (fun hb22 => ?_)
  · have hm := condT hb22 hm
    refine cW_seq ?_
    refine cW_region ?_
    refine wS_pure 2 [(5, .bool (false)), (4, .slice none 0 0)] (by kernel_rfl) ?_
    refine wS_end (by rfl) ?_
    refine eX_then ?_
    refine cW_ret ?_
    refine eX_then_ret ?_
    have hq : (some (([], false)) : Option ((List (List (Int))) × (Bool))) = some _ := hm
    replace hq := someE hq
    subst hq
    refine eX_ret (vs := [.slice none 0 0, .bool (false)]) [.tmp 4, .tmp 5] (by rfl) ⟨by (show lkE _ _ _ = _); kernel_rfl, ⟨by (show lkE _ _ _ = _); kernel_rfl, trivial⟩⟩ ?_
    exact ⟨none, 0, [], [], rfl, OwR.nil _, (lowApp lowNil lowNil), hB⟩
  · have hm := condF hb22 hm
    refine cW_skip ?_
    refine eX_then ?_
    refine cW_seq ?_
    refine cW_region ?_
    refine wS_pure 2 [(26, .int .i64 (((y3.1).length : Int))), (25, .slice A7 (y3.1).length cap8)] (by kernel_rfl) ?_
    obtain ⟨_, hk23, hm⟩ := bindE hm
    replace hk23 := mkE hk23
    refine wS_makeR (T2 := 2) (k := 1) (enc := encI) (d := 27) (t := 37) (T := 38) (k1 := .i64) (k2 := .i64) (m := ((y3.1).length : Int)) (by kernel_rfl) el37 hk23.1 hk23.2 ?_
    intro b24 w25 G26 F27 hc28
    have D30 : Dj fp9 ([b24] ++ []) := Dj.of F10.low (lowApp (low1 G26) lowNil)
    have D31 : Dj fp15 ([b24] ++ []) := Dj.of F16.low (lowApp (low1 G26) lowNil)
    replace F0 := F0.chg hc28 Dj.nil
    replace F1 := F1.chg hc28 Dj.nil
    replace F10 := F10.chg hc28 Dj.nil
    replace F16 := F16.chg hc28 Dj.nil
    replace hB := hB.inS hc28 inNil
    replace G26 := Nat.le_trans hZ G26
    replace G26 := low1 G26
    replace hZ := Nat.le_trans hZ hc28.size
    replace G26 := lowApp G26 lowNil
    refine wS_pure 1 [(9, .slice (some ⟨b24, 0, none⟩) (List.replicate (Int.toNat (((y3.1).length : Int))) ([] : List (Int))).length (Int.toNat (((y3.1).length : Int))))] (by kernel_rfl) ?_
    refine wS_end (by rfl) ?_
    refine eX_then ?_
    refine cW_seq ?_
    refine cW_region ?_
    refine wS_pure 4 [(10, .int .i64 (wr ((((y3.1).length : Int)) - 1))), (30, .int .i64 (wr ((((y3.1).length : Int)) - 1))), (29, .int .i64 (((y3.1).length : Int))), (28, .slice A7 (y3.1).length cap8)] (by kernel_rfl) ?_
    refine wS_end (by rfl) ?_
    refine eX_then ?_
    refine cW_prune [(0, .slice A0 (l0).length cap0), (1, .slice A1 (l1).length cap1), (6, .slice A7 (y3.1).length cap8), (9, .slice (some ⟨b24, 0, none⟩) (List.replicate (Int.toNat (((y3.1).length : Int))) ([] : List (Int))).length (Int.toNat (((y3.1).length : Int)))), (10, .int .i64 (wr ((((y3.1).length : Int)) - 1)))] (by kernel_rfl) (by kernel_rfl) (fun a32 => ?_)
    refine cW_seq ?_
    refine cW_drawnTail [] 15 (by kernel_rfl) (by kernel_rfl) (fun w67 hc68 => ?_)
    replace F0 := F0.chg hc68 Dj.nil
    replace F1 := F1.chg hc68 Dj.nil
    replace F10 := F10.chg hc68 Dj.nil
    replace F16 := F16.chg hc68 Dj.nil
    replace F27 := F27.chg hc68 Dj.nil
    replace hB := hB.inS hc68 inNil
    replace hZ := Nat.le_trans hZ hc68.size
    have hS := Chg.refl [] w67
    have Z69 := F0
    have Z70 := F1
    have Z71 := F10
    have Z72 := F16
    have Z73 := F27
    refine wH_take [0, 1, 2, 3] [3, 2, 1, 0] [(34, .int .i64 (wr ((((y3.1).length : Int)) - 1))), (33, .slice A7 (y3.1).length cap8), (32, .int .i64 (wr ((((y3.1).length : Int)) - 1))), (31, .slice (some ⟨b24, 0, none⟩) (List.replicate (Int.toNat (((y3.1).length : Int))) ([] : List (Int))).length (Int.toNat (((y3.1).length : Int))))] (by kernel_rfl) (qT (qT qZ)) (by kernel_rfl) ?_
    obtain ⟨x74, hx75, hm⟩ := bindE hm
    refine wH_idx (i := 4) (d := 35) (T := 61) (A := A7) (n := (y3.1).length) (cap := cap8) (kd := .i64) (m := wr ((((y3.1).length : Int)) - 1)) (by kernel_rfl) (qT (qT qZ)) (by kernel_rfl) (by kernel_rfl) sl61 ((F10.sl encIIIII_ok).is hx75) ?_
    refine wH_take [5, 6] [6, 5, 4, 3, 2, 1, 0] [(37, .pointer (some (elA A7 5 (wr ((((y3.1).length : Int)) - 1)) 0))), (36, .pointer (some (elA A7 5 (wr ((((y3.1).length : Int)) - 1)) 0)))] (by kernel_rfl) (qT (qT qZ)) (by kernel_rfl) ?_
    refine wH_load1 (i := 7) (d := 38) (T := 2) (ad := (elA A7 5 (wr ((((y3.1).length : Int)) - 1)) 0)) (v := .int .i64 (x74.1)) (by kernel_rfl) (qT (qT qZ)) (by kernel_rfl) (by kernel_rfl) vt2 (fun W hW => Sl.cell ((Z71.chg hW Dj.nil).sl encIIIII_ok) hx75 0 (by rfl)) ?_
    refine wH_take [8, 9] [9, 8, 7, 6, 5, 4, 3, 2, 1, 0] [(40, .int .i64 (wr ((((y3.1).length : Int)) - 1))), (39, .slice A7 (y3.1).length cap8)] (by kernel_rfl) (qT (qT qZ)) (by kernel_rfl) ?_
    obtain ⟨x76, hx77, hm⟩ := bindE hm
    refine wH_idx (i := 10) (d := 41) (T := 61) (A := A7) (n := (y3.1).length) (cap := cap8) (kd := .i64) (m := wr ((((y3.1).length : Int)) - 1)) (by kernel_rfl) (qT (qT qZ)) (by kernel_rfl) (by kernel_rfl) sl61 ((F10.sl encIIIII_ok).is hx77) ?_
    refine wH_take [11, 12] [12, 11, 10, 9, 8, 7, 6, 5, 4, 3, 2, 1, 0] [(43, .pointer (some (elA A7 5 (wr ((((y3.1).length : Int)) - 1)) 2))), (42, .pointer (some (elA A7 5 (wr ((((y3.1).length : Int)) - 1)) 0)))] (by kernel_rfl) (qT (qT qZ)) (by kernel_rfl) ?_
    refine wH_load1 (i := 13) (d := 44) (T := 2) (ad := (elA A7 5 (wr ((((y3.1).length : Int)) - 1)) 2)) (v := .int .i64 (x76.2.2.1)) (by kernel_rfl) (qT (qT qZ)) (by kernel_rfl) (by kernel_rfl) vt2 (fun W hW => Sl.cell ((Z71.chg hW Dj.nil).sl encIIIII_ok) hx77 2 (by rfl)) ?_
    refine wH_all [14] (by rfl) (by kernel_rfl) (by simp) ⟨⟨by kernel_rfl, ?_⟩, trivial⟩
    refine wS_bs (enc := encI) ([x74.1, x76.2.2.1] : List (Int)) [.int .i64 (x74.1), .int .i64 (x76.2.2.1)] (d := 45) (t := 38) (T := 2) (n := 2) (ps := [(0, .int .i64 (x74.1)), (1, .int .i64 (x76.2.2.1))]) (by kernel_rfl) el38 encI_ok (by rfl) (by omega) (by omega) (by kernel_rfl) (by rfl) ?_
    intro b78 w79 G80 F81 hc82
    have D84 : Dj fp9 [b78] := Dj.of F10.low (low1 G80)
    have D85 : Dj fp15 [b78] := Dj.of F16.low (low1 G80)
    have D86 : Dj ([b24] ++ []) [b78] := Dj.of F27.low (low1 G80)
    replace F0 := F0.chg hc82 Dj.nil
    replace F1 := F1.chg hc82 Dj.nil
    replace F10 := F10.chg hc82 Dj.nil
    replace F16 := F16.chg hc82 Dj.nil
    replace F27 := F27.chg hc82 Dj.nil
    replace hB := hB.inS hc82 inNil
    have hSz := hS
    replace hS := hS.inS hc82 inNil
    have Gz87 := low1 (Nat.le_trans hSz.size G80)
    replace G80 := Nat.le_trans hZ G80
    replace G80 := low1 G80
    replace hZ := Nat.le_trans hZ hc82.size
    refine wS_end (by kernel_rfl) ?_
    refine eX_KH hS ?_
    refine wH_done (by kernel_rfl) ?_
    refine eX_tail ?_
    obtain ⟨x88, hx89, hm⟩ := bindE hm
    refine wS_idx (d := 46) (T := 37) (A := (some ⟨b24, 0, none⟩)) (n := (List.replicate (Int.toNat (((y3.1).length : Int))) ([] : List (Int))).length) (cap := (Int.toNat (((y3.1).length : Int)))) (kd := .i64) (m := wr ((((y3.1).length : Int)) - 1)) (by kernel_rfl) sl37 ((F27.slr encI_ok).is hx89) ?_
    refine wS_storeRow (k := 1) (enc := encI) (x := x88) (l := ([x74.1, x76.2.2.1] : List (Int))) (T := 38) (U := 38) (cap := (Int.toNat (((y3.1).length : Int)))) (c := 2) (A := (some ⟨b24, 0, none⟩)) (B := (some ⟨b78, 0, none⟩)) (m := wr ((((y3.1).length : Int)) - 1)) (by kernel_rfl) sz38 F27 F81 D86 hx89 ?_
    intro w93 F94 hc95
    have D97 : Dj fp9 ([b24] ++ ([] ++ [b78])) := Dj.app (Dj.inl D30) (Dj.app (Dj.inr D30) D84)
    have D98 : Dj fp15 ([b24] ++ ([] ++ [b78])) := Dj.app (Dj.inl D31) (Dj.app (Dj.inr D31) D85)
    have G99 := lowApp (low_inl G26) (lowApp (low_inr G26) G80)
    have Dm100 := Dj.inl D86.symm
    replace F0 := F0.chg hc95 (Dj.inl (Dj.of L0 G26))
    replace F1 := F1.chg hc95 (Dj.inl (Dj.of L1 G26))
    replace F10 := F10.chg hc95 (Dj.inl D30)
    replace F16 := F16.chg hc95 (Dj.inl D31)
    replace F81 := F81.chg hc95 (Dj.inl (D86).symm)
    replace hB := hB.inS hc95 (memS_inl (inLow G26))
    replace hZ := Nat.le_trans hZ hc95.size
    replace F81 := (F81.sl encI_ok)
    rewrite [show (List.replicate (Int.toNat (((y3.1).length : Int))) ([] : List (Int))).length = ((List.replicate (Int.toNat (((y3.1).length : Int))) ([] : List (Int))).set (Int.toNat (wr ((((y3.1).length : Int)) - 1))) (([x74.1, x76.2.2.1] : List (Int)))).length from (List.length_set ..).symm]
    refine wS_end (by rfl) ?_
    refine eX_then ?_
    refine cW_seq ?_
    refine cW_seq ?_
    refine cW_region ?_
    refine wS_pure 4 [(11, .int .i64 (wr ((((l1).length : Int)) - 1))), (49, .int .i64 (wr ((((l1).length : Int)) - 1))), (48, .int .i64 (((l1).length : Int))), (47, .slice A1 (l1).length cap1)] (by kernel_rfl) ?_
    refine wS_end (by rfl) ?_
    refine eX_then ?_
    refine cW_prune [(0, .slice A0 (l0).length cap0), (1, .slice A1 (l1).length cap1), (6, .slice A7 (y3.1).length cap8), (9, .slice (some ⟨b24, 0, none⟩) ((List.replicate (Int.toNat (((y3.1).length : Int))) ([] : List (Int))).set (Int.toNat (wr ((((y3.1).length : Int)) - 1))) (([x74.1, x76.2.2.1] : List (Int)))).length (Int.toNat (((y3.1).length : Int)))), (11, .int .i64 (wr ((((l1).length : Int)) - 1)))] (by kernel_rfl) (by kernel_rfl) (fun a101 => ?_)
    obtain ⟨r958, hr959, hm⟩ := bindE hm
    have hm960 := hm
    refine cW_cut (fun a' w' => ∃ l934 : List (List (Int)), ∃ A935 : Option Addr, ∃ cap936 : Nat, ∃ fp937 : List Nat, ∃ fr939 : List Nat, l934 = r958 ∧ Fr 97 [(9, .slice A935 (l934).length cap936)] a' ∧ OwR 1 encI 38 2 w' fp937 fr939 A935 cap936 l934 ∧ (∀ x ∈ (fp937 ++ fr939), w0.heap.size ≤ x) ∧ Chg [] w0 w' ∧ w0.heap.size ≤ w'.heap.size) ?_ ?_
    · refine cW_block ?_
      refine cW_loop _ (fun (s961 : (List (List (Int))) × Int) a' w' => ∃ l944 : List (List (Int)), ∃ A945 : Option Addr, ∃ cap946 : Nat, ∃ fp947 : List Nat, ∃ fr949 : List Nat, ∃ x950 : Int, (l944, x950) = s961 ∧ Fr 97 [(0, .slice A0 (l0).length cap0), (1, .slice A1 (l1).length cap1), (6, .slice A7 (y3.1).length cap8), (9, .slice A945 (l944).length cap946), (11, .int .i64 (x950))] a' ∧ Sl 2 encII w' fp0 A0 l0 ∧ SlR 1 encI w' fp1 A1 l1 ∧ Ow 5 encIIIII 27 w' fp9 A7 cap8 y3.1 ∧ OwR 1 encI 38 2 w' fp947 fr949 A945 cap946 l944 ∧ (∀ x ∈ (fp947 ++ fr949), w0.heap.size ≤ x) ∧ Dj fp9 (fp947 ++ fr949) ∧ Chg [] w0 w' ∧ w0.heap.size ≤ w'.heap.size) hr959 (fun hst => ⟨(List.replicate (Int.toNat (((y3.1).length : Int))) ([] : List (Int))).set (Int.toNat (wr ((((y3.1).length : Int)) - 1))) (([x74.1, x76.2.2.1] : List (Int))), (some ⟨b24, 0, none⟩), (Int.toNat (((y3.1).length : Int))), [b24], ([] ++ [b78]), wr ((((l1).length : Int)) - 1), rfl, Fr.of hst (by kernel_rfl), F0, F1, F10, F94, G99, D97, hB, hZ⟩) ?_
      rintro _ c962 a' w943 ⟨l944, A945, cap946, fp947, fr949, x950, rfl, hF951, F952, F953, F954, F955, G956, D957, hB, hZ⟩ hx963
      refine Fr.goOn hF951 (by kernel_rfl) ?_
      have hm := hx963
      unfold m_impl_ClockPlaces_s3 at hm
      refine cW_seq ?_
      refine cW_seq ?_
      refine cW_region ?_
      refine wS_pure 2 [(51, .bool (decide (x950 ≥ 0))), (50, .int .i64 (x950))] (by kernel_rfl) ?_
      refine wS_end (by rfl) ?_
      refine eX_then ?_
      refine cW_cond (t := decide (x950 ≥ 0)) (by kernel_rfl) (fun hb964 => ?_) (fun hb964 => ?_)
      · have hm := condT hb964 hm
        refine cW_skip ?_
        refine eX_then ?_
        refine cW_seq ?_
        refine cW_block ?_
        refine cW_seq ?_
        refine cW_region ?_
        refine wS_pure 5 [(58, .int .i64 (wr ((((l0).length : Int)) + x950))), (57, .int .i64 (x950)), (56, .int .i64 (((l0).length : Int))), (55, .slice A0 (l0).length cap0), (54, .slice A945 (l944).length cap946)] (by kernel_rfl) ?_
        obtain ⟨x965, hx966, hm⟩ := bindE hm
        refine wS_idx (d := 59) (T := 37) (A := A945) (n := (l944).length) (cap := cap946) (kd := .i64) (m := wr ((((l0).length : Int)) + x950)) (by kernel_rfl) sl37 ((F955.slr encI_ok).is hx966) ?_
        obtain ⟨A967, cap968, hc970, F969, K971⟩ := OwR.row F955 encI_ok hx966
        have G973 := low_inr G956
        have Dm974 := (F955.dj).symm
        refine wS_load1 (d := 60) (T := 38) (ad := (elA A945 1 (wr ((((l0).length : Int)) + x950)) 0)) (v := .slice A967 (x965).length cap968) (by kernel_rfl) vt38 hc970 ?_
        refine wS_pure 1 [(12, .slice A967 (x965).length cap968)] (by kernel_rfl) ?_
        refine wS_end (by rfl) ?_
        refine eX_then ?_
        refine cW_seq ?_
        refine cW_region ?_
        refine wS_pure 2 [(62, .int .i64 (x950)), (61, .slice A1 (l1).length cap1)] (by kernel_rfl) ?_
        obtain ⟨x975, hx976, hm⟩ := bindE hm
        refine wS_idx (d := 63) (T := 37) (A := A1) (n := (l1).length) (cap := cap1) (kd := .i64) (m := x950) (by kernel_rfl) sl37 (F953.is hx976) ?_
        obtain ⟨A977, cap978, hc980, F979, K981⟩ := SlR.row F953 hx976
        refine wS_load1 (d := 64) (T := 38) (ad := (elA A1 1 (x950) 0)) (v := .slice A977 (x975).length cap978) (by kernel_rfl) vt38 hc980 ?_
        refine wS_pure 2 [(66, .int .i64 (0)), (65, .int .i64 (((x975).length : Int)))] (by kernel_rfl) ?_
        refine wS_end (by rfl) ?_
        refine eX_then ?_
        obtain ⟨r1255, hr1256, hm⟩ := bindE hm
        have hm1257 := hm
        refine cW_cut (fun a' w' => ∃ l1224 : List (List (Int)), ∃ A1225 : Option Addr, ∃ cap1226 : Nat, ∃ fp1227 : List Nat, ∃ fr1229 : List Nat, l1224 = r1255 ∧ Fr 97 [(0, .slice A0 (l0).length cap0), (1, .slice A1 (l1).length cap1), (6, .slice A7 (y3.1).length cap8), (9, .slice A1225 (l1224).length cap1226), (11, .int .i64 (x950))] a' ∧ Sl 2 encII w' fp0 A0 l0 ∧ SlR 1 encI w' fp1 A1 l1 ∧ Ow 5 encIIIII 27 w' fp9 A7 cap8 y3.1 ∧ OwR 1 encI 38 2 w' fp1227 fr1229 A1225 cap1226 l1224 ∧ (∀ x ∈ (fp1227 ++ fr1229), w0.heap.size ≤ x) ∧ Dj fp9 (fp1227 ++ fr1229) ∧ Chg [] w0 w' ∧ w0.heap.size ≤ w'.heap.size) ?_ ?_
        · refine cW_block ?_
          refine cW_loop _ (fun (s1258 : (List (List (Int))) × Int) a' w' => ∃ l1238 : List (List (Int)), ∃ A1239 : Option Addr, ∃ cap1240 : Nat, ∃ fp1241 : List Nat, ∃ fr1243 : List Nat, ∃ x1244 : Int, (l1238, x1244) = s1258 ∧ Fr 97 [(0, .slice A0 (l0).length cap0), (1, .slice A1 (l1).length cap1), (6, .slice A7 (y3.1).length cap8), (9, .slice A1239 (l1238).length cap1240), (11, .int .i64 (x950)), (12, .slice A967 (x965).length cap968), (64, .slice A977 (x975).length cap978), (65, .int .i64 (((x975).length : Int))), (66, .int .i64 (x1244))] a' ∧ Sl 2 encII w' fp0 A0 l0 ∧ SlR 1 encI w' fp1 A1 l1 ∧ Ow 5 encIIIII 27 w' fp9 A7 cap8 y3.1 ∧ Sl 1 encI w' fr949 A967 x965 ∧ Sl 1 encI w' fp1 A977 x975 ∧ OwR 1 encI 38 2 w' fp1241 fr1243 A1239 cap1240 l1238 ∧ Dj fr949 fp1241 ∧ (∀ x ∈ (fp1241 ++ fr1243), w0.heap.size ≤ x) ∧ Dj fp9 (fp1241 ++ fr1243) ∧ Chg [] w0 w' ∧ w0.heap.size ≤ w'.heap.size) hr1256 (fun hst => ⟨l944, A945, cap946, fp947, fr949, 0, rfl, Fr.of hst (by kernel_rfl), F952, F953, F954, F969, F979, F955, Dm974, G956, D957, hB, hZ⟩) ?_
          rintro _ c1259 a' w1237 ⟨l1238, A1239, cap1240, fp1241, fr1243, x1244, rfl, hF1245, F1246, F1247, F1248, F1249, F1250, F1251, Dm1252, G1253, D1254, hB, hZ⟩ hx1260
          refine Fr.goOn hF1245 (by kernel_rfl) ?_
          have hm := hx1260
          unfold m_impl_ClockPlaces_s4 at hm
          refine cW_seq ?_
          refine cW_region ?_
          refine wS_pure 1 [(67, .bool (decide (x1244 < (((x975).length : Int)))))] (by kernel_rfl) ?_
          refine wS_end (by rfl) ?_
          refine eX_then ?_
          refine cW_seq ?_
          refine cW_cond (t := decide (x1244 < (((x975).length : Int)))) (by kernel_rfl) (fun hb1261 => ?_) (fun hb1261 => ?_)
          · have hm := condT hb1261 hm
            refine cW_skip ?_
            refine eX_then ?_
            refine cW_seq ?_
            refine cW_block ?_
            refine cW_seq ?_
            refine cW_region ?_
            obtain ⟨x1262, hx1263, hm⟩ := bindE hm
            refine wS_idx (d := 68) (T := 38) (A := A977) (n := (x975).length) (cap := cap978) (kd := .i64) (m := x1244) (by kernel_rfl) sl38 (F1250.is hx1263) ?_
            refine wS_load1 (d := 69) (T := 2) (ad := (elA A977 1 (x1244) 0)) (v := .int .i64 (x1262)) (by kernel_rfl) vt2 (Sl.cell F1250 hx1263 0 (by rfl)) ?_
            refine wS_pure 1 [(14, .int .i64 (x1262))] (by kernel_rfl) ?_
            refine wS_end (by rfl) ?_
            refine eX_then ?_
            refine cW_seq ?_
            refine cW_region ?_
            refine wS_pure 2 [(71, .int .i64 (x1262)), (70, .slice A7 (y3.1).length cap8)] (by kernel_rfl) ?_
            obtain ⟨x1264, hx1265, hm⟩ := bindE hm
            refine wS_idx (d := 72) (T := 61) (A := A7) (n := (y3.1).length) (cap := cap8) (kd := .i64) (m := x1262) (by kernel_rfl) sl61 ((F1248.sl encIIIII_ok).is hx1265) ?_
            refine wS_pure 1 [(73, .pointer (some (elA A7 5 (x1262) 0)))] (by kernel_rfl) ?_
            refine wS_loadA (d := 74) (T := 25) (ad := (elA A7 5 (x1262) 0)) (vs := [.int .i64 (x1264.1), .int .i64 (x1264.2.1), .int .i64 (x1264.2.2.1), .int .i64 (x1264.2.2.2.1)]) (by kernel_rfl) vt25 (fun i u hu => Sl.cells_at (F1248.sl encIIIII_ok) hx1265 0 hu (by rfl)) ?_
            refine wS_alloc (d := 15) (T := 25) (z := .agg #[.int .i64 (0), .int .i64 (0), .int .i64 (0), .int .i64 (0)]) (by kernel_rfl) (by kernel_rfl) ?_
            intro b1266 w1267 G1268 F1269 hc1270
            replace F1269 : Cl w1267 b1266 25 [.int .i64 (0), .int .i64 (0), .int .i64 (0), .int .i64 (0)] := F1269
            have D1272 : Dj fp9 [b1266] := Dj.of F1248.low (low1 G1268)
            have D1273 : Dj fr949 [b1266] := Dj.of F1249.low (low1 G1268)
            have D1274 : Dj (fp1241 ++ fr1243) [b1266] := Dj.of F1251.low (low1 G1268)
            replace F1246 := F1246.chg hc1270 Dj.nil
            replace F1247 := F1247.chg hc1270 Dj.nil
            replace F1248 := F1248.chg hc1270 Dj.nil
            replace F1249 := F1249.chg hc1270 Dj.nil
            replace F1250 := F1250.chg hc1270 Dj.nil
            replace F1251 := F1251.chg hc1270 Dj.nil
            replace hB := hB.inS hc1270 inNil
            replace G1268 := Nat.le_trans hZ G1268
            replace hZ := Nat.le_trans hZ hc1270.size
            refine wS_store (T := 25) (g := b1266) (o := 0) (ad := ⟨b1266, 0, none⟩) (v := .agg #[.int .i64 (x1264.1), .int .i64 (x1264.2.1), .int .i64 (x1264.2.2.1), .int .i64 (x1264.2.2.2.1)]) (vs := [.int .i64 (x1264.1), .int .i64 (x1264.2.1), .int .i64 (x1264.2.2.1), .int .i64 (x1264.2.2.2.1)]) (by kernel_rfl) (by rfl) sz25 (by rfl) (by rfl) F1269 (by simp only [List.length_cons, List.length_nil]; omega) ?_
            intro w1275 F1276 hc1277
            replace F1246 := F1246.chg hc1277 (Dj.of L0 (low1 G1268))
            replace F1247 := F1247.chg hc1277 (Dj.of L1 (low1 G1268))
            replace F1248 := F1248.chg hc1277 D1272
            replace F1249 := F1249.chg hc1277 D1273
            replace F1250 := F1250.chg hc1277 (Dj.of L1 (low1 G1268))
            replace F1251 := F1251.chg hc1277 D1274
            replace hB := hB.inS hc1277 (inLow (low1 G1268))
            replace hZ := Nat.le_trans hZ hc1277.size
            replace F1276 : Cl w1275 b1266 25 [.int .i64 (x1264.1), .int .i64 (x1264.2.1), .int .i64 (x1264.2.2.1), .int .i64 (x1264.2.2.2.1)] := F1276
            clear F1269
            refine wS_end (by rfl) ?_
            refine eX_then ?_
            refine cW_drawnTail [] 19 (by kernel_rfl) (by kernel_rfl) (fun w1323 hc1324 => ?_)
            replace F1246 := F1246.chg hc1324 Dj.nil
            replace F1247 := F1247.chg hc1324 Dj.nil
            replace F1248 := F1248.chg hc1324 Dj.nil
            replace F1249 := F1249.chg hc1324 Dj.nil
            replace F1250 := F1250.chg hc1324 Dj.nil
            replace F1251 := F1251.chg hc1324 Dj.nil
            replace F1276 := F1276.chg hc1324 notNil
            replace hB := hB.inS hc1324 inNil
            replace hZ := Nat.le_trans hZ hc1324.size
            have hS := Chg.refl [] w1323
            have Z1325 := F1246
            have Z1326 := F1247
            have Z1327 := F1248
            have Z1328 := F1249
            have Z1329 := F1250
            have Z1330 := F1251
            have Z1331 := F1276
            refine wH_take [0, 1, 2] [2, 1, 0] [(77, .slice A967 (x965).length cap968), (76, .int .i64 (x1262)), (75, .slice A1239 (l1238).length cap1240)] (by kernel_rfl) (qT (qB (qT (qL (qB (qT (qB (qT (qL (qB (qT (qT qZ)))))))))))) (by kernel_rfl) ?_
            obtain ⟨x1332, hx1333, hm⟩ := bindE hm
            refine wH_idx (i := 3) (d := 78) (T := 38) (A := A967) (n := (x965).length) (cap := cap968) (kd := .i64) (m := 0) (by kernel_rfl) (qT (qB (qT (qL (qB (qT (qB (qT (qL (qB (qT (qT qZ)))))))))))) (by kernel_rfl) (by kernel_rfl) sl38 (F1249.is hx1333) ?_
            refine wH_load1 (i := 4) (d := 79) (T := 2) (ad := (elA A967 1 (0) 0)) (v := .int .i64 (x1332)) (by kernel_rfl) (qT (qB (qT (qL (qB (qT (qB (qT (qL (qB (qT (qT qZ)))))))))))) (by kernel_rfl) (by kernel_rfl) vt2 (fun W hW => Sl.cell (Z1328.chg hW Dj.nil) hx1333 0 (by rfl)) ?_
            refine wH_take [5] [5, 4, 3, 2, 1, 0] [(80, .pointer (some ⟨b1266, 0, none⟩))] (by kernel_rfl) (qT (qB (qT (qL (qB (qT (qB (qT (qL (qB (qT (qT qZ)))))))))))) (by kernel_rfl) ?_
            refine wH_load1 (i := 6) (d := 81) (T := 2) (ad := ⟨b1266, 0, none⟩) (v := .int .i64 (x1264.1)) (by kernel_rfl) (qT (qB (qT (qL (qB (qT (qB (qT (qL (qB (qT (qT qZ)))))))))))) (by kernel_rfl) (by kernel_rfl) vt2 (fun W hW => (Z1331.chg hW notNil).cell 0) ?_
            refine wH_take [7] [7, 6, 5, 4, 3, 2, 1, 0] [(82, .pointer (some ⟨b1266, 1, none⟩))] (by kernel_rfl) (qT (qB (qT (qL (qB (qT (qB (qT (qL (qB (qT (qT qZ)))))))))))) (by kernel_rfl) ?_
            refine wH_load1 (i := 8) (d := 83) (T := 2) (ad := ⟨b1266, 1, none⟩) (v := .int .i64 (x1264.2.1)) (by kernel_rfl) (qT (qB (qT (qL (qB (qT (qB (qT (qL (qB (qT (qT qZ)))))))))))) (by kernel_rfl) (by kernel_rfl) vt2 (fun W hW => (Z1331.chg hW notNil).cell 1) ?_
            refine wH_take [10] [10, 8, 7, 6, 5, 4, 3, 2, 1, 0] [(85, .slice A967 (x965).length cap968)] (by kernel_rfl) (qT (qB (qT (qL (qB (qT (qB (qT (qL (qB (qT (qT qZ)))))))))))) (by kernel_rfl) ?_
            obtain ⟨x1334, hx1335, hm⟩ := bindE hm
            refine wH_idx (i := 11) (d := 86) (T := 38) (A := A967) (n := (x965).length) (cap := cap968) (kd := .i64) (m := 1) (by kernel_rfl) (qT (qB (qT (qL (qB (qT (qB (qT (qL (qB (qT (qT qZ)))))))))))) (by kernel_rfl) (by kernel_rfl) sl38 (F1249.is hx1335) ?_
            refine wH_load1 (i := 12) (d := 87) (T := 2) (ad := (elA A967 1 (1) 0)) (v := .int .i64 (x1334)) (by kernel_rfl) (qT (qB (qT (qL (qB (qT (qB (qT (qL (qB (qT (qT qZ)))))))))))) (by kernel_rfl) (by kernel_rfl) vt2 (fun W hW => Sl.cell (Z1328.chg hW Dj.nil) hx1335 0 (by rfl)) ?_
            refine wH_take [13] [13, 12, 11, 10, 8, 7, 6, 5, 4, 3, 2, 1, 0] [(88, .pointer (some ⟨b1266, 2, none⟩))] (by kernel_rfl) (qT (qB (qT (qL (qB (qT (qB (qT (qL (qB (qT (qT qZ)))))))))))) (by kernel_rfl) ?_
            refine wH_load1 (i := 14) (d := 89) (T := 2) (ad := ⟨b1266, 2, none⟩) (v := .int .i64 (x1264.2.2.1)) (by kernel_rfl) (qT (qB (qT (qL (qB (qT (qB (qT (qL (qB (qT (qT qZ)))))))))))) (by kernel_rfl) (by kernel_rfl) vt2 (fun W hW => (Z1331.chg hW notNil).cell 2) ?_
            refine wH_take [15] [15, 14, 13, 12, 11, 10, 8, 7, 6, 5, 4, 3, 2, 1, 0] [(90, .pointer (some ⟨b1266, 3, none⟩))] (by kernel_rfl) (qT (qB (qT (qL (qB (qT (qB (qT (qL (qB (qT (qT qZ)))))))))))) (by kernel_rfl) ?_
            refine wH_load1 (i := 16) (d := 91) (T := 2) (ad := ⟨b1266, 3, none⟩) (v := .int .i64 (x1264.2.2.2.1)) (by kernel_rfl) (qT (qB (qT (qL (qB (qT (qB (qT (qL (qB (qT (qT qZ)))))))))))) (by kernel_rfl) (by kernel_rfl) vt2 (fun W hW => (Z1331.chg hW notNil).cell 3) ?_
            refine wH_all [9] (by rfl) (by kernel_rfl) (by simp) ⟨⟨by kernel_rfl, ?_⟩, trivial⟩
            obtain ⟨y1336, hy1337, hm⟩ := bindE hm
            refine wS_calls (d := 84) (f := 97) (vs := [.int .i64 (x1332), .int .i64 (x1264.1), .int .i64 (x1264.2.1)]) (by kernel_rfl) ent97 (c_impl_nearest hy1337) ?_
            rintro _ w1338 ⟨rfl, hc1339⟩
            replace F1246 := F1246.chg hc1339 Dj.nil
            replace F1247 := F1247.chg hc1339 Dj.nil
            replace F1248 := F1248.chg hc1339 Dj.nil
            replace F1249 := F1249.chg hc1339 Dj.nil
            replace F1250 := F1250.chg hc1339 Dj.nil
            replace F1251 := F1251.chg hc1339 Dj.nil
            replace F1276 := F1276.chg hc1339 notNil
            replace hB := hB.inS hc1339 inNil
            have hSz := hS
            replace hS := hS.inS hc1339 inNil
            replace hZ := Nat.le_trans hZ hc1339.size
            refine ⟨.int .i64 (y1336), rfl, ?_⟩
            refine wS_end (by kernel_rfl) ?_
            refine eX_KH hS ?_
            refine wH_all [17] (by rfl) (by kernel_rfl) (by simp) ⟨⟨by kernel_rfl, ?_⟩, trivial⟩
            obtain ⟨y1340, hy1341, hm⟩ := bindE hm
            refine wS_calls (d := 92) (f := 97) (vs := [.int .i64 (x1334), .int .i64 (x1264.2.2.1), .int .i64 (x1264.2.2.2.1)]) (by kernel_rfl) ent97 (c_impl_nearest hy1341) ?_
            rintro _ w1342 ⟨rfl, hc1343⟩
            replace F1246 := F1246.chg hc1343 Dj.nil
            replace F1247 := F1247.chg hc1343 Dj.nil
            replace F1248 := F1248.chg hc1343 Dj.nil
            replace F1249 := F1249.chg hc1343 Dj.nil
            replace F1250 := F1250.chg hc1343 Dj.nil
            replace F1251 := F1251.chg hc1343 Dj.nil
            replace F1276 := F1276.chg hc1343 notNil
            replace hB := hB.inS hc1343 inNil
            have hSz := hS
            replace hS := hS.inS hc1343 inNil
            replace hZ := Nat.le_trans hZ hc1343.size
            refine ⟨.int .i64 (y1340), rfl, ?_⟩
            refine wS_end (by kernel_rfl) ?_
            refine eX_KH hS ?_
            refine wH_all [18] (by rfl) (by kernel_rfl) (by simp) ⟨⟨by kernel_rfl, ?_⟩, trivial⟩
            refine wS_bs (enc := encI) ([y1336, y1340] : List (Int)) [.int .i64 (y1336), .int .i64 (y1340)] (d := 93) (t := 38) (T := 2) (n := 2) (ps := [(0, .int .i64 (y1336)), (1, .int .i64 (y1340))]) (by kernel_rfl) el38 encI_ok (by rfl) (by omega) (by omega) (by kernel_rfl) (by rfl) ?_
            intro b1344 w1345 G1346 F1347 hc1348
            have D1350 : Dj fp9 [b1344] := Dj.of F1248.low (low1 G1346)
            have D1351 : Dj fr949 [b1344] := Dj.of F1249.low (low1 G1346)
            have D1352 : Dj (fp1241 ++ fr1243) [b1344] := Dj.of F1251.low (low1 G1346)
            have D1353 : Dj [b1266] [b1344] := Dj.of (lt1 F1276.lt) (low1 G1346)
            replace F1246 := F1246.chg hc1348 Dj.nil
            replace F1247 := F1247.chg hc1348 Dj.nil
            replace F1248 := F1248.chg hc1348 Dj.nil
            replace F1249 := F1249.chg hc1348 Dj.nil
            replace F1250 := F1250.chg hc1348 Dj.nil
            replace F1251 := F1251.chg hc1348 Dj.nil
            replace F1276 := F1276.chg hc1348 notNil
            replace hB := hB.inS hc1348 inNil
            have hSz := hS
            replace hS := hS.inS hc1348 inNil
            have Gz1354 := low1 (Nat.le_trans hSz.size G1346)
            replace G1346 := Nat.le_trans hZ G1346
            replace G1346 := low1 G1346
            replace hZ := Nat.le_trans hZ hc1348.size
            refine wS_end (by kernel_rfl) ?_
            refine eX_KH hS ?_
            refine wH_done (by kernel_rfl) ?_
            refine eX_tail ?_
            obtain ⟨x1355, hx1356, hm⟩ := bindE hm
            refine wS_idx (d := 94) (T := 37) (A := A1239) (n := (l1238).length) (cap := cap1240) (kd := .i64) (m := x1262) (by kernel_rfl) sl37 ((F1251.slr encI_ok).is hx1356) ?_
            refine wS_storeRow (k := 1) (enc := encI) (x := x1355) (l := ([y1336, y1340] : List (Int))) (T := 38) (U := 38) (cap := cap1240) (c := 2) (A := A1239) (B := (some ⟨b1344, 0, none⟩)) (m := x1262) (by kernel_rfl) sz38 F1251 F1347 D1352 hx1356 ?_
            intro w1360 F1361 hc1362
            have D1364 : Dj fp9 (fp1241 ++ (fr1243 ++ [b1344])) := Dj.app (Dj.inl D1254) (Dj.app (Dj.inr D1254) D1350)
            have D1365 : Dj [b1266] (fp1241 ++ (fr1243 ++ [b1344])) := Dj.app (Dj.inl (D1274).symm) (Dj.app (Dj.inr (D1274).symm) D1353)
            have G1366 := lowApp (low_inl G1253) (lowApp (low_inr G1253) G1346)
            have Dm1367 := Dj.inl D1352.symm
            replace F1246 := F1246.chg hc1362 (Dj.inl (Dj.of L0 G1253))
            replace F1247 := F1247.chg hc1362 (Dj.inl (Dj.of L1 G1253))
            replace F1248 := F1248.chg hc1362 (Dj.inl D1254)
            replace F1249 := F1249.chg hc1362 Dm1252
            replace F1250 := F1250.chg hc1362 (Dj.inl (Dj.of L1 G1253))
            replace F1276 := F1276.chg hc1362 (dj1 (Dj.inl (D1274).symm))
            replace F1347 := F1347.chg hc1362 (Dj.inl (D1352).symm)
            replace hB := hB.inS hc1362 (memS_inl (inLow G1253))
            replace hZ := Nat.le_trans hZ hc1362.size
            replace F1347 := (F1347.sl encI_ok)
            rewrite [show (l1238).length = (l1238.set (Int.toNat x1262) (([y1336, y1340] : List (Int)))).length from (List.length_set ..).symm]
            refine wS_end (by rfl) ?_
            refine eX_block ?_
            refine eX_then ?_
            refine cW_prune [(0, .slice A0 (l0).length cap0), (1, .slice A1 (l1).length cap1), (6, .slice A7 (y3.1).length cap8), (9, .slice A1239 (l1238.set (Int.toNat x1262) (([y1336, y1340] : List (Int)))).length cap1240), (11, .int .i64 (x950)), (12, .slice A967 (x965).length cap968), (64, .slice A977 (x975).length cap978), (65, .int .i64 (((x975).length : Int))), (66, .int .i64 (x1244))] (by kernel_rfl) (by kernel_rfl) (fun a1368 => ?_)
            refine cW_region ?_
            refine wS_pure 2 [(66, .int .i64 (wr (x1244 + 1))), (95, .int .i64 (wr (x1244 + 1)))] (by kernel_rfl) ?_
            refine wS_end (by rfl) ?_
            have hq : (some (Ctl.next ((l1238.set (Int.toNat x1262) (([y1336, y1340] : List (Int))), wr (x1244 + 1)))) : Option (Ctl ((List (List (Int))) × Int) ((List (List (Int)))))) = some _ := hm
            replace hq := someE hq
            subst hq
            exact eX_next hx1260 (fun hst => ⟨l1238.set (Int.toNat x1262) (([y1336, y1340] : List (Int))), A1239, cap1240, fp1241, (fr1243 ++ [b1344]), wr (x1244 + 1), rfl, Fr.of hst (by kernel_rfl), F1246, F1247, F1248, F1249, F1250, F1361, Dm1252, G1366, D1364, hB, hZ⟩)
          · have hm := condF hb1261 hm
            refine cW_exit ?_
            refine eX_then_exit ?_
            have hq : (some (Ctl.out l1238) : Option (Ctl ((List (List (Int))) × Int) ((List (List (Int)))))) = some _ := hm
            replace hq := someE hq
            subst hq
            refine eX_outX hx1260 (fun hr1369 => ?_)
            replace hr1369 := hr1369.symm
            subst hr1369
            refine eX_block_hit ?_
            exact eX_J (fun hst => ⟨l1238, A1239, cap1240, fp1241, fr1243, rfl, Fr.of hst (by kernel_rfl), F1246, F1247, F1248, F1251, G1253, D1254, hB, hZ⟩)
        · rintro a' w1223 ⟨l1224, A1225, cap1226, fp1227, fr1229, hJ, hF1230, F1231, F1232, F1233, F1234, G1235, D1236, hB, hZ⟩
          subst hJ
          refine Fr.goX hF1230 (by kernel_rfl) ?_
          refine eX_block ?_
          refine eX_then ?_
          refine cW_region ?_
          refine wS_pure 3 [(11, .int .i64 (wr (x950 - 1))), (53, .int .i64 (wr (x950 - 1))), (52, .int .i64 (x950))] (by kernel_rfl) ?_
          refine wS_end (by rfl) ?_
          have hq : (some (Ctl.next ((l1224, wr (x950 - 1)))) : Option (Ctl ((List (List (Int))) × Int) ((List (List (Int)))))) = some _ := hm
          replace hq := someE hq
          subst hq
          exact eX_next hx963 (fun hst => ⟨l1224, A1225, cap1226, fp1227, fr1229, wr (x950 - 1), rfl, Fr.of hst (by kernel_rfl), F1231, F1232, F1233, F1234, G1235, D1236, hB, hZ⟩)
      · have hm := condF hb964 hm
        refine cW_exit ?_
        refine eX_then_exit ?_
        have hq : (some (Ctl.out l944) : Option (Ctl ((List (List (Int))) × Int) ((List (List (Int)))))) = some _ := hm
        replace hq := someE hq
        subst hq
        refine eX_outX hx963 (fun hr1370 => ?_)
        replace hr1370 := hr1370.symm
        subst hr1370
        refine eX_block_hit ?_
        exact eX_J (fun hst => ⟨l944, A945, cap946, fp947, fr949, rfl, Fr.of hst (by kernel_rfl), F955, G956, hB, hZ⟩)
    · rintro a' w933 ⟨l934, A935, cap936, fp937, fr939, hJ, hF940, F941, G942, hB, hZ⟩
      subst hJ
      refine Fr.goX hF940 (by kernel_rfl) ?_
      refine eX_then ?_
      refine cW_seq ?_
      refine cW_region ?_
      refine wS_pure 3 [(5, .bool (true)), (4, .slice A935 (l934).length cap936), (96, .slice A935 (l934).length cap936)] (by kernel_rfl) ?_
      refine wS_end (by rfl) ?_
      refine eX_then ?_
      refine cW_ret ?_
      have hq : (some ((l934, true)) : Option ((List (List (Int))) × (Bool))) = some _ := hm
      replace hq := someE hq
      subst hq
      refine eX_ret (vs := [.slice A935 (l934).length cap936, .bool (true)]) [.tmp 4, .tmp 5] (by rfl) ⟨by (show lkE _ _ _ = _); kernel_rfl, ⟨by (show lkE _ _ _ = _); kernel_rfl, trivial⟩⟩ ?_
      exact ⟨A935, cap936, fp937, fr939, rfl, F941, G942, hB⟩

set_option maxRecDepth 100000 in
/-- impl.SkewOf$1 -/
theorem c_impl_SkewOf_1 {w0 : World} {p0 : Int} {r : (Bool)} (hm : m_impl_SkewOf_1 p0 = some r)  :
    Calls Try.prog 98 #[.int .i64 (p0)] w0 fun e w' => e = .returned (.bool (r)) ∧ Chg [] w0 w' := by
  have hB : Chg [] w0 w0 := Chg.refl _ _
  have hZ := Nat.le_refl w0.heap.size
  unfold m_impl_SkewOf_1 at hm
  refine enterE (N := 6) Try.func98 (by rfl) Try.ntmps98 (by simp) [(0, .int .i64 (p0))] (by rfl) (by kernel_rfl) (fun a => ?_)
  refine cW_seq ?_
  refine cW_region ?_
  refine wS_pure 1 [(2, .bool (false))] (by kernel_rfl) ?_
  refine wS_end (by rfl) ?_
  refine eX_then ?_
  refine cW_seq ?_
  refine cW_region ?_
  refine wS_pure 1 [(3, .int .i64 (p0))] (by kernel_rfl) ?_
  obtain ⟨y1, hy2, hm⟩ := bindE hm
  refine wS_calls (d := 4) (f := 77) (vs := [.int .i64 (p0), .int .i64 (0), .int .i64 (1000000000)]) (by kernel_rfl) ent77 (c_impl_in hy2) ?_
  rintro _ w3 ⟨rfl, hc4⟩
  replace hB := hB.inS hc4 inNil
  replace hZ := Nat.le_trans hZ hc4.size
  refine ⟨.bool (y1), rfl, ?_⟩
  refine wS_pure 2 [(2, .bool (!y1)), (5, .bool (!y1))] (by kernel_rfl) ?_
  refine wS_end (by rfl) ?_
  refine eX_then ?_
  refine cW_ret ?_
  have hq : (some (!y1) : Option ((Bool))) = some _ := hm
  replace hq := someE hq
  subst hq
  refine eX_ret (vs := [.bool (!y1)]) [.tmp 2] (by rfl) ⟨by (show lkE _ _ _ = _); kernel_rfl, trivial⟩ ?_
  exact ⟨rfl, hB⟩

set_option maxRecDepth 100000 in
/-- slices.Max[[]int64,int64] -/
theorem c_slices_Max_int64_int64 {w0 : World} {l0 : List (Int)} {A0 : Option Addr} {cap0 : Nat} {fp0 : List Nat} {r : (Int)} (hm : m_slices_Max_int64_int64 l0 = some r) (F0 : Sl 1 encI w0 fp0 A0 l0) :
    Calls Try.prog 99 #[.slice A0 (l0).length cap0] w0 fun e w' => e = .returned (.int .i64 (r)) ∧ Chg [] w0 w' := by
  have L0 := F0.low
  have hB : Chg [] w0 w0 := Chg.refl _ _
  have hZ := Nat.le_refl w0.heap.size
  unfold m_slices_Max_int64_int64 at hm
  refine enterE (N := 25) Try.func99 (by rfl) Try.ntmps99 (by simp) [(0, .slice A0 (l0).length cap0)] (by rfl) (by kernel_rfl) (fun a => ?_)
  refine cW_seq ?_
  refine cW_region ?_
  refine wS_pure 1 [(2, .int .i64 (0))] (by kernel_rfl) ?_
  refine wS_end (by rfl) ?_
  refine eX_then ?_
  refine cW_seq ?_
  obtain ⟨s6, hs7, hm⟩ := bindE hm
  refine cW_cut (fun a' w' => () = s6 ∧ Fr 25 [(0, .slice A0 (l0).length cap0)] a' ∧ Sl 1 encI w' fp0 A0 l0 ∧ Chg [] w0 w' ∧ w0.heap.size ≤ w'.heap.size) ?_ ?_
  · have hm := hs7
    refine cW_seq ?_
    refine cW_region ?_
    refine wS_pure 3 [(7, .bool (decide ((((l0).length : Int)) < 1))), (6, .int .i64 (((l0).length : Int))), (5, .slice A0 (l0).length cap0)] (by kernel_rfl) ?_
    refine wS_end (by rfl) ?_
    refine eX_then ?_
    refine cW_cond (t := decide ((((l0).length : Int)) < 1)) (by kernel_rfl) (fun hb8 => ?_) (fun hb8 => ?_)
    · have hm := condT hb8 hm
      refine cW_region ?_
      exact noneE hm
    · have hm := condF hb8 hm
      refine cW_skip ?_
      have hq : (some (()) : Option (Unit)) = some _ := hm
      replace hq := someE hq
      subst hq
      exact eX_J (fun hst => ⟨rfl, Fr.of hst (by kernel_rfl), F0, hB, hZ⟩)
  · rintro a' w3 ⟨hJ, hF4, F5, hB, hZ⟩
    subst hJ
    refine Fr.goX hF4 (by kernel_rfl) ?_
    refine eX_then ?_
    refine cW_seq ?_
    refine cW_region ?_
    refine wS_pure 1 [(9, .slice A0 (l0).length cap0)] (by kernel_rfl) ?_
    obtain ⟨x9, hx10, hm⟩ := bindE hm
    refine wS_idx (d := 10) (T := 38) (A := A0) (n := (l0).length) (cap := cap0) (kd := .i64) (m := 0) (by kernel_rfl) sl38 (F5.is hx10) ?_
    refine wS_load1 (d := 11) (T := 2) (ad := (elA A0 1 (0) 0)) (v := .int .i64 (x9)) (by kernel_rfl) vt2 (Sl.cell F5 hx10 0 (by rfl)) ?_
    refine wS_pure 1 [(3, .int .i64 (x9))] (by kernel_rfl) ?_
    refine wS_end (by rfl) ?_
    refine eX_then ?_
    refine cW_seq ?_
    refine cW_seq ?_
    refine cW_region ?_
    refine wS_pure 1 [(4, .int .i64 (1))] (by kernel_rfl) ?_
    refine wS_end (by rfl) ?_
    refine eX_then ?_
    obtain ⟨r31, hr32, hm⟩ := bindE hm
    have hm33 := hm
    refine cW_cut (fun a' w' => ∃ x24 : Int, x24 = r31 ∧ Fr 25 [(3, .int .i64 (x24))] a' ∧ Chg [] w0 w' ∧ w0.heap.size ≤ w'.heap.size) ?_ ?_
    · refine cW_block ?_
      refine cW_loop _ (fun (s34 : Int × Int) a' w' => ∃ x27 : Int, ∃ x28 : Int, (x27, x28) = s34 ∧ Fr 25 [(0, .slice A0 (l0).length cap0), (3, .int .i64 (x27)), (4, .int .i64 (x28))] a' ∧ Sl 1 encI w' fp0 A0 l0 ∧ Chg [] w0 w' ∧ w0.heap.size ≤ w'.heap.size) hr32 (fun hst => ⟨x9, 1, rfl, Fr.of hst (by kernel_rfl), F5, hB, hZ⟩) ?_
      rintro _ c35 a' w26 ⟨x27, x28, rfl, hF29, F30, hB, hZ⟩ hx36
      refine Fr.goOn hF29 (by kernel_rfl) ?_
      have hm := hx36
      unfold m_slices_Max_int64_int64_s1 at hm
      refine cW_seq ?_
      refine cW_seq ?_
      refine cW_region ?_
      refine wS_pure 4 [(15, .bool (decide (x28 < (((l0).length : Int))))), (14, .int .i64 (((l0).length : Int))), (13, .slice A0 (l0).length cap0), (12, .int .i64 (x28))] (by kernel_rfl) ?_
      refine wS_end (by rfl) ?_
      refine eX_then ?_
      refine cW_cond (t := decide (x28 < (((l0).length : Int)))) (by kernel_rfl) (fun hb37 => ?_) (fun hb37 => ?_)
      · have hm := condT hb37 hm
        refine cW_skip ?_
        refine eX_then ?_
        refine cW_seq ?_
        refine cW_block ?_
        refine cW_region ?_
        refine wS_pure 3 [(20, .int .i64 (x28)), (19, .slice A0 (l0).length cap0), (18, .int .i64 (x27))] (by kernel_rfl) ?_
        obtain ⟨x38, hx39, hm⟩ := bindE hm
        refine wS_idx (d := 21) (T := 38) (A := A0) (n := (l0).length) (cap := cap0) (kd := .i64) (m := x28) (by kernel_rfl) sl38 (F30.is hx39) ?_
        refine wS_load1 (d := 22) (T := 2) (ad := (elA A0 1 (x28) 0)) (v := .int .i64 (x38)) (by kernel_rfl) vt2 (Sl.cell F30 hx39 0 (by rfl)) ?_
        refine wS_pure 2 [(3, .int .i64 (if x38 > x27 then x38 else x27)), (23, .int .i64 (if x38 > x27 then x38 else x27))] (by kernel_rfl) ?_
        refine wS_end (by rfl) ?_
        refine eX_block ?_
        refine eX_then ?_
        refine cW_region ?_
        refine wS_pure 3 [(4, .int .i64 (wr (x28 + 1))), (17, .int .i64 (wr (x28 + 1))), (16, .int .i64 (x28))] (by kernel_rfl) ?_
        refine wS_end (by rfl) ?_
        have hq : (some (Ctl.next ((if x38 > x27 then x38 else x27, wr (x28 + 1)))) : Option (Ctl (Int × Int) (Int))) = some _ := hm
        replace hq := someE hq
        subst hq
        exact eX_next hx36 (fun hst => ⟨if x38 > x27 then x38 else x27, wr (x28 + 1), rfl, Fr.of hst (by kernel_rfl), F30, hB, hZ⟩)
      · have hm := condF hb37 hm
        refine cW_exit ?_
        refine eX_then_exit ?_
        have hq : (some (Ctl.out x27) : Option (Ctl (Int × Int) (Int))) = some _ := hm
        replace hq := someE hq
        subst hq
        refine eX_outX hx36 (fun hr40 => ?_)
        replace hr40 := hr40.symm
        subst hr40
        refine eX_block_hit ?_
        exact eX_J (fun hst => ⟨x27, rfl, Fr.of hst (by kernel_rfl), hB, hZ⟩)
    · rintro a' w23 ⟨x24, hJ, hF25, hB, hZ⟩
      subst hJ
      refine Fr.goX hF25 (by kernel_rfl) ?_
      refine eX_then ?_
      refine cW_seq ?_
      refine cW_region ?_
      refine wS_pure 2 [(2, .int .i64 (x24)), (24, .int .i64 (x24))] (by kernel_rfl) ?_
      refine wS_end (by rfl) ?_
      refine eX_then ?_
      refine cW_ret ?_
      have hq : (some x24 : Option ((Int))) = some _ := hm
      replace hq := someE hq
      subst hq
      refine eX_ret (vs := [.int .i64 (x24)]) [.tmp 2] (by rfl) ⟨by (show lkE _ _ _ = _); kernel_rfl, trivial⟩ ?_
      exact ⟨rfl, hB⟩

set_option maxRecDepth 100000 in
/-- slices.Min[[]int64,int64] -/
theorem c_slices_Min_int64_int64 {w0 : World} {l0 : List (Int)} {A0 : Option Addr} {cap0 : Nat} {fp0 : List Nat} {r : (Int)} (hm : m_slices_Min_int64_int64 l0 = some r) (F0 : Sl 1 encI w0 fp0 A0 l0) :
    Calls Try.prog 100 #[.slice A0 (l0).length cap0] w0 fun e w' => e = .returned (.int .i64 (r)) ∧ Chg [] w0 w' := by
  have L0 := F0.low
  have hB : Chg [] w0 w0 := Chg.refl _ _
  have hZ := Nat.le_refl w0.heap.size
  unfold m_slices_Min_int64_int64 at hm
  refine enterE (N := 25) Try.func100 (by rfl) Try.ntmps100 (by simp) [(0, .slice A0 (l0).length cap0)] (by rfl) (by kernel_rfl) (fun a => ?_)
  refine cW_seq ?_
  refine cW_region ?_
  refine wS_pure 1 [(2, .int .i64 (0))] (by kernel_rfl) ?_
  refine wS_end (by rfl) ?_
  refine eX_then ?_
  refine cW_seq ?_
  obtain ⟨s6, hs7, hm⟩ := bindE hm
  refine cW_cut (fun a' w' => () = s6 ∧ Fr 25 [(0, .slice A0 (l0).length cap0)] a' ∧ Sl 1 encI w' fp0 A0 l0 ∧ Chg [] w0 w' ∧ w0.heap.size ≤ w'.heap.size) ?_ ?_
  · have hm := hs7
    refine cW_seq ?_
    refine cW_region ?_
    refine wS_pure 3 [(7, .bool (decide ((((l0).length : Int)) < 1))), (6, .int .i64 (((l0).length : Int))), (5, .slice A0 (l0).length cap0)] (by kernel_rfl) ?_
    refine wS_end (by rfl) ?_
    refine eX_then ?_
    refine cW_cond (t := decide ((((l0).length : Int)) < 1)) (by kernel_rfl) (fun hb8 => ?_) (fun hb8 => ?_)
    · have hm := condT hb8 hm
      refine cW_region ?_
      exact noneE hm
    · have hm := condF hb8 hm
      refine cW_skip ?_
      have hq : (some (()) : Option (Unit)) = some _ := hm
      replace hq := someE hq
      subst hq
      exact eX_J (fun hst => ⟨rfl, Fr.of hst (by kernel_rfl), F0, hB, hZ⟩)
  · rintro a' w3 ⟨hJ, hF4, F5, hB, hZ⟩
    subst hJ
    refine Fr.goX hF4 (by kernel_rfl) ?_
    refine eX_then ?_
    refine cW_seq ?_
    refine cW_region ?_
    refine wS_pure 1 [(9, .slice A0 (l0).length cap0)] (by kernel_rfl) ?_
    obtain ⟨x9, hx10, hm⟩ := bindE hm
    refine wS_idx (d := 10) (T := 38) (A := A0) (n := (l0).length) (cap := cap0) (kd := .i64) (m := 0) (by kernel_rfl) sl38 (F5.is hx10) ?_
    refine wS_load1 (d := 11) (T := 2) (ad := (elA A0 1 (0) 0)) (v := .int .i64 (x9)) (by kernel_rfl) vt2 (Sl.cell F5 hx10 0 (by rfl)) ?_
    refine wS_pure 1 [(3, .int .i64 (x9))] (by kernel_rfl) ?_
    refine wS_end (by rfl) ?_
    refine eX_then ?_
    refine cW_seq ?_
    refine cW_seq ?_
    refine cW_region ?_
    refine wS_pure 1 [(4, .int .i64 (1))] (by kernel_rfl) ?_
    refine wS_end (by rfl) ?_
    refine eX_then ?_
    obtain ⟨r31, hr32, hm⟩ := bindE hm
    have hm33 := hm
    refine cW_cut (fun a' w' => ∃ x24 : Int, x24 = r31 ∧ Fr 25 [(3, .int .i64 (x24))] a' ∧ Chg [] w0 w' ∧ w0.heap.size ≤ w'.heap.size) ?_ ?_
    · refine cW_block ?_
      refine cW_loop _ (fun (s34 : Int × Int) a' w' => ∃ x27 : Int, ∃ x28 : Int, (x27, x28) = s34 ∧ Fr 25 [(0, .slice A0 (l0).length cap0), (3, .int .i64 (x27)), (4, .int .i64 (x28))] a' ∧ Sl 1 encI w' fp0 A0 l0 ∧ Chg [] w0 w' ∧ w0.heap.size ≤ w'.heap.size) hr32 (fun hst => ⟨x9, 1, rfl, Fr.of hst (by kernel_rfl), F5, hB, hZ⟩) ?_
      rintro _ c35 a' w26 ⟨x27, x28, rfl, hF29, F30, hB, hZ⟩ hx36
      refine Fr.goOn hF29 (by kernel_rfl) ?_
      have hm := hx36
      unfold m_slices_Min_int64_int64_s1 at hm
      refine cW_seq ?_
      refine cW_seq ?_
      refine cW_region ?_
      refine wS_pure 4 [(15, .bool (decide (x28 < (((l0).length : Int))))), (14, .int .i64 (((l0).length : Int))), (13, .slice A0 (l0).length cap0), (12, .int .i64 (x28))] (by kernel_rfl) ?_
      refine wS_end (by rfl) ?_
      refine eX_then ?_
      refine cW_cond (t := decide (x28 < (((l0).length : Int)))) (by kernel_rfl) (fun hb37 => ?_) (fun hb37 => ?_)
      · have hm := condT hb37 hm
        refine cW_skip ?_
        refine eX_then ?_
        refine cW_seq ?_
        refine cW_block ?_
        refine cW_region ?_
        refine wS_pure 3 [(20, .int .i64 (x28)), (19, .slice A0 (l0).length cap0), (18, .int .i64 (x27))] (by kernel_rfl) ?_
        obtain ⟨x38, hx39, hm⟩ := bindE hm
        refine wS_idx (d := 21) (T := 38) (A := A0) (n := (l0).length) (cap := cap0) (kd := .i64) (m := x28) (by kernel_rfl) sl38 (F30.is hx39) ?_
        refine wS_load1 (d := 22) (T := 2) (ad := (elA A0 1 (x28) 0)) (v := .int .i64 (x38)) (by kernel_rfl) vt2 (Sl.cell F30 hx39 0 (by rfl)) ?_
        refine wS_pure 2 [(3, .int .i64 (if x38 < x27 then x38 else x27)), (23, .int .i64 (if x38 < x27 then x38 else x27))] (by kernel_rfl) ?_
        refine wS_end (by rfl) ?_
        refine eX_block ?_
        refine eX_then ?_
        refine cW_region ?_
        refine wS_pure 3 [(4, .int .i64 (wr (x28 + 1))), (17, .int .i64 (wr (x28 + 1))), (16, .int .i64 (x28))] (by kernel_rfl) ?_
        refine wS_end (by rfl) ?_
        have hq : (some (Ctl.next ((if x38 < x27 then x38 else x27, wr (x28 + 1)))) : Option (Ctl (Int × Int) (Int))) = some _ := hm
        replace hq := someE hq
        subst hq
        exact eX_next hx36 (fun hst => ⟨if x38 < x27 then x38 else x27, wr (x28 + 1), rfl, Fr.of hst (by kernel_rfl), F30, hB, hZ⟩)
      · have hm := condF hb37 hm
        refine cW_exit ?_
        refine eX_then_exit ?_
        have hq : (some (Ctl.out x27) : Option (Ctl (Int × Int) (Int))) = some _ := hm
        replace hq := someE hq
        subst hq
        refine eX_outX hx36 (fun hr40 => ?_)
        replace hr40 := hr40.symm
        subst hr40
        refine eX_block_hit ?_
        exact eX_J (fun hst => ⟨x27, rfl, Fr.of hst (by kernel_rfl), hB, hZ⟩)
    · rintro a' w23 ⟨x24, hJ, hF25, hB, hZ⟩
      subst hJ
      refine Fr.goX hF25 (by kernel_rfl) ?_
      refine eX_then ?_
      refine cW_seq ?_
      refine cW_region ?_
      refine wS_pure 2 [(2, .int .i64 (x24)), (24, .int .i64 (x24))] (by kernel_rfl) ?_
      refine wS_end (by rfl) ?_
      refine eX_then ?_
      refine cW_ret ?_
      have hq : (some x24 : Option ((Int))) = some _ := hm
      replace hq := someE hq
      subst hq
      refine eX_ret (vs := [.int .i64 (x24)]) [.tmp 2] (by rfl) ⟨by (show lkE _ _ _ = _); kernel_rfl, trivial⟩ ?_
      exact ⟨rfl, hB⟩

set_option maxRecDepth 100000 in
/-- slices.IndexFunc[[]int64,int64] -/
theorem c_slices_IndexFunc_int64_int64_impl_SkewOf_1 {w0 : World} {l0 : List (Int)} {A0 : Option Addr} {cap0 : Nat} {fp0 : List Nat} {r : (Int)} (hm : m_slices_IndexFunc_int64_int64_impl_SkewOf_1 l0 = some r) (F0 : Sl 1 encI w0 fp0 A0 l0) :
    Calls Try.prog 126 #[.slice A0 (l0).length cap0, .func (.func 98) #[] #[]] w0 fun e w' => e = .returned (.int .i64 (r)) ∧ Chg [] w0 w' := by
  have L0 := F0.low
  have hB : Chg [] w0 w0 := Chg.refl _ _
  have hZ := Nat.le_refl w0.heap.size
  unfold m_slices_IndexFunc_int64_int64_impl_SkewOf_1 at hm
  refine enterE (N := 19) Try.func126 (by rfl) Try.ntmps126 (by simp) [(0, .slice A0 (l0).length cap0), (1, .func (.func 98) #[] #[])] (by rfl) (by kernel_rfl) (fun a => ?_)
  refine cW_seq ?_
  refine cW_region ?_
  refine wS_pure 1 [(4, .int .i64 (0))] (by kernel_rfl) ?_
  refine wS_end (by rfl) ?_
  refine eX_then ?_
  refine cW_seq ?_
  refine cW_seq ?_
  refine cW_region ?_
  refine wS_pure 3 [(8, .int .i64 (0)), (7, .int .i64 (((l0).length : Int))), (6, .slice A0 (l0).length cap0)] (by kernel_rfl) ?_
  refine wS_end (by rfl) ?_
  refine eX_then ?_
  obtain ⟨r29, hr30, hm⟩ := bindE hm
  have hm31 := hm
  refine cW_cut (fun a' w' => Sum.inl (()) = r29 ∧ Fr 19 [] a' ∧ Chg [] w0 w' ∧ w0.heap.size ≤ w'.heap.size) ?_ ?_
  · refine cW_block ?_
    refine cW_loop _ (fun (s32 : Int) a' w' => ∃ x26 : Int, x26 = s32 ∧ Fr 19 [(0, .slice A0 (l0).length cap0), (1, .func (.func 98) #[] #[]), (7, .int .i64 (((l0).length : Int))), (8, .int .i64 (x26))] a' ∧ Sl 1 encI w' fp0 A0 l0 ∧ Chg [] w0 w' ∧ w0.heap.size ≤ w'.heap.size) hr30 (fun hst => ⟨0, rfl, Fr.of hst (by kernel_rfl), F0, hB, hZ⟩) ?_
    rintro _ c33 a' w25 ⟨x26, rfl, hF27, F28, hB, hZ⟩ hx34
    refine Fr.goOn hF27 (by kernel_rfl) ?_
    have hm := hx34
    unfold m_slices_IndexFunc_int64_int64_impl_SkewOf_1_s1 at hm
    refine cW_seq ?_
    refine cW_region ?_
    refine wS_pure 1 [(9, .bool (decide (x26 < (((l0).length : Int)))))] (by kernel_rfl) ?_
    refine wS_end (by rfl) ?_
    refine eX_then ?_
    refine cW_seq ?_
    refine cW_cond (t := decide (x26 < (((l0).length : Int)))) (by kernel_rfl) (fun hb35 => ?_) (fun hb35 => ?_)
    · have hm := condT hb35 hm
      refine cW_skip ?_
      refine eX_then ?_
      refine cW_seq ?_
      refine cW_block ?_
      refine cW_seq ?_
      refine cW_region ?_
      refine wS_pure 2 [(5, .int .i64 (x26)), (10, .int .i64 (x26))] (by kernel_rfl) ?_
      refine wS_end (by rfl) ?_
      refine eX_then ?_
      refine cW_seq ?_
      refine cW_region ?_
      refine wS_pure 3 [(13, .int .i64 (x26)), (12, .slice A0 (l0).length cap0), (11, .func (.func 98) #[] #[])] (by kernel_rfl) ?_
      obtain ⟨x36, hx37, hm⟩ := bindE hm
      refine wS_idx (d := 14) (T := 38) (A := A0) (n := (l0).length) (cap := cap0) (kd := .i64) (m := x26) (by kernel_rfl) sl38 (F28.is hx37) ?_
      refine wS_load1 (d := 15) (T := 2) (ad := (elA A0 1 (x26) 0)) (v := .int .i64 (x36)) (by kernel_rfl) vt2 (Sl.cell F28 hx37 0 (by rfl)) ?_
      obtain ⟨y38, hy39, hm⟩ := bindE hm
      refine wS_calls (d := 16) (f := 98) (vs := [.int .i64 (x36)]) (by kernel_rfl) ent98 (c_impl_SkewOf_1 hy39) ?_
      rintro _ w40 ⟨rfl, hc41⟩
      replace F28 := F28.chg hc41 Dj.nil
      replace hB := hB.inS hc41 inNil
      replace hZ := Nat.le_trans hZ hc41.size
      refine ⟨.bool (y38), rfl, ?_⟩
      refine wS_end (by rfl) ?_
      refine eX_then ?_
      refine cW_cond (t := y38) (by kernel_rfl) (fun hb42 => ?_) (fun hb42 => ?_)
      · have hm := condT hb42 hm
        refine cW_seq ?_
        refine cW_region ?_
        refine wS_pure 2 [(4, .int .i64 (x26)), (17, .int .i64 (x26))] (by kernel_rfl) ?_
        refine wS_end (by rfl) ?_
        refine eX_then ?_
        refine cW_ret ?_
        refine eX_block_ret ?_
        refine eX_then_ret ?_
        have hq : (some (Ctl.out (Sum.inr x26)) : Option (Ctl (Int) (Sum (Unit) ((Int))))) = some _ := hm
        replace hq := someE hq
        subst hq
        refine eX_outR hx34 (fun hr => ?_)
        subst hr
        refine eX_block_ret ?_
        refine eX_then_ret ?_
        refine eX_then_ret ?_
        have hq : (some x26 : Option ((Int))) = some _ := hm31
        replace hq := someE hq
        subst hq
        refine eX_ret (vs := [.int .i64 (x26)]) [.tmp 4] (by rfl) ⟨by (show lkE _ _ _ = _); kernel_rfl, trivial⟩ ?_
        exact ⟨rfl, hB⟩
      · have hm := condF hb42 hm
        refine cW_skip ?_
        refine eX_block ?_
        refine eX_then ?_
        refine cW_region ?_
        refine wS_pure 2 [(8, .int .i64 (wr (x26 + 1))), (18, .int .i64 (wr (x26 + 1)))] (by kernel_rfl) ?_
        refine wS_end (by rfl) ?_
        have hq : (some (Ctl.next (wr (x26 + 1))) : Option (Ctl (Int) (Sum (Unit) ((Int))))) = some _ := hm
        replace hq := someE hq
        subst hq
        exact eX_next hx34 (fun hst => ⟨wr (x26 + 1), rfl, Fr.of hst (by kernel_rfl), F28, hB, hZ⟩)
    · have hm := condF hb35 hm
      refine cW_exit ?_
      refine eX_then_exit ?_
      have hq : (some (Ctl.out (Sum.inl (()))) : Option (Ctl (Int) (Sum (Unit) ((Int))))) = some _ := hm
      replace hq := someE hq
      subst hq
      refine eX_outX hx34 (fun hr43 => ?_)
      replace hr43 := hr43.symm
      subst hr43
      refine eX_block_hit ?_
      exact eX_J (fun hst => ⟨rfl, Fr.of hst (by kernel_rfl), hB, hZ⟩)
  · rintro a' w23 ⟨hJ, hF24, hB, hZ⟩
    subst hJ
    refine Fr.goX hF24 (by kernel_rfl) ?_
    refine eX_then ?_
    refine cW_seq ?_
    refine cW_region ?_
    refine wS_pure 1 [(4, .int .i64 ((-1)))] (by kernel_rfl) ?_
    refine wS_end (by rfl) ?_
    refine eX_then ?_
    refine cW_ret ?_
    have hq : (some ((-1)) : Option ((Int))) = some _ := hm
    replace hq := someE hq
    subst hq
    refine eX_ret (vs := [.int .i64 ((-1))]) [.tmp 4] (by rfl) ⟨by (show lkE _ _ _ = _); kernel_rfl, trivial⟩ ?_
    exact ⟨rfl, hB⟩

set_option maxRecDepth 100000 in
/-- slices.ContainsFunc[[]int64,int64] -/
theorem c_slices_ContainsFunc_int64_int64_impl_SkewOf_1 {w0 : World} {l0 : List (Int)} {A0 : Option Addr} {cap0 : Nat} {fp0 : List Nat} {r : (Bool)} (hm : m_slices_ContainsFunc_int64_int64_impl_SkewOf_1 l0 = some r) (F0 : Sl 1 encI w0 fp0 A0 l0) :
    Calls Try.prog 87 #[.slice A0 (l0).length cap0, .func (.func 98) #[] #[]] w0 fun e w' => e = .returned (.bool (r)) ∧ Chg [] w0 w' := by
  have L0 := F0.low
  have hB : Chg [] w0 w0 := Chg.refl _ _
  have hZ := Nat.le_refl w0.heap.size
  unfold m_slices_ContainsFunc_int64_int64_impl_SkewOf_1 at hm
  refine enterE (N := 9) Try.func87 (by rfl) Try.ntmps87 (by simp) [(0, .slice A0 (l0).length cap0), (1, .func (.func 98) #[] #[])] (by rfl) (by kernel_rfl) (fun a => ?_)
  refine cW_seq ?_
  refine cW_region ?_
  refine wS_pure 1 [(4, .bool (false))] (by kernel_rfl) ?_
  refine wS_end (by rfl) ?_
  refine eX_then ?_
  refine cW_seq ?_
  refine cW_region ?_
  refine wS_pure 2 [(6, .func (.func 98) #[] #[]), (5, .slice A0 (l0).length cap0)] (by kernel_rfl) ?_
  obtain ⟨y2, hy3, hm⟩ := bindE hm
  refine wS_calls (d := 7) (f := 126) (vs := [.slice A0 (l0).length cap0, .func (.func 98) #[] #[]]) (by kernel_rfl) ent126 (c_slices_IndexFunc_int64_int64_impl_SkewOf_1 hy3 F0) ?_
  rintro _ w4 ⟨rfl, hc5⟩
  replace F0 := F0.chg hc5 Dj.nil
  replace hB := hB.inS hc5 inNil
  replace hZ := Nat.le_trans hZ hc5.size
  refine ⟨.int .i64 (y2), rfl, ?_⟩
  refine wS_pure 2 [(4, .bool (decide (y2 ≥ 0))), (8, .bool (decide (y2 ≥ 0)))] (by kernel_rfl) ?_
  refine wS_end (by rfl) ?_
  refine eX_then ?_
  refine cW_ret ?_
  have hq : (some (decide (y2 ≥ 0)) : Option ((Bool))) = some _ := hm
  replace hq := someE hq
  subst hq
  refine eX_ret (vs := [.bool (decide (y2 ≥ 0))]) [.tmp 4] (by rfl) ⟨by (show lkE _ _ _ = _); kernel_rfl, trivial⟩ ?_
  exact ⟨rfl, hB⟩

set_option maxRecDepth 100000 in
/-- impl.SkewOf -/
theorem c_impl_SkewOf {w0 : World} {p0 : Int} {l1 : List (List (Int))} {A1 : Option Addr} {cap1 : Nat} {fp1 : List Nat} {l2 : List (Int)} {A2 : Option Addr} {cap2 : Nat} {fp2 : List Nat} {r : (Int) × (Bool)} (hm : m_impl_SkewOf p0 l1 l2 = some r) (F1 : SlR 1 encI w0 fp1 A1 l1) (F2 : Sl 1 encI w0 fp2 A2 l2) :
    Calls Try.prog 43 #[.int .i64 (p0), .slice A1 (l1).length cap1, .slice A2 (l2).length cap2] w0 fun e w' => e = .returned (.tuple #[.int .i64 (r.1), .bool (r.2)]) ∧ Chg [] w0 w' := by
  have L1 := F1.low
  have L2 := F2.low
  have hB : Chg [] w0 w0 := Chg.refl _ _
  have hZ := Nat.le_refl w0.heap.size
  unfold m_impl_SkewOf at hm
  refine enterE (N := 71) Try.func43 (by rfl) Try.ntmps43 (by simp) [(0, .int .i64 (p0)), (1, .slice A1 (l1).length cap1), (2, .slice A2 (l2).length cap2)] (by rfl) (by kernel_rfl) (fun a => ?_)
  refine cW_seq ?_
  refine cW_region ?_
  refine wS_pure 2 [(7, .bool (false)), (6, .int .i64 (0))] (by kernel_rfl) ?_
  refine wS_end (by rfl) ?_
  refine eX_then ?_
  refine cW_seq ?_
  refine cW_seq ?_
  refine cW_region ?_
  refine wS_pure 2 [(13, .slice A1 (l1).length cap1), (12, .int .i64 (p0))] (by kernel_rfl) ?_
  obtain ⟨y3, hy4, hm⟩ := bindE hm
  refine wS_calls (d := 14) (f := 44) (vs := [.int .i64 (p0), .slice A1 (l1).length cap1]) (by kernel_rfl) ent44 (c_impl_IsJoins hy4 F1) ?_
  rintro _ w5 ⟨rfl, hc6⟩
  replace F1 := F1.chg hc6 Dj.nil
  replace F2 := F2.chg hc6 Dj.nil
  replace hB := hB.inS hc6 inNil
  replace hZ := Nat.le_trans hZ hc6.size
  refine ⟨.bool (y3), rfl, ?_⟩
  refine wS_pure 2 [(16, .bool (!y3)), (15, .bool (!y3))] (by kernel_rfl) ?_
  refine wS_bool (!y3) (fun hb7 => ?_) (fun hb7 => ?_)
  · have hm := condT hb7 hm
    rewrite [hb7]
    refine wS_pure 11 [(27, .bool (true)), (26, undef), (25, undef), (24, .bool (true)), (23, .bool (true)), (22, undef), (21, undef), (20, undef), (19, undef), (18, undef), (17, undef)] (by kernel_rfl) ?_
    refine wS_end (by rfl) ?_
    refine eX_then ?_
    refine cW_cond_t (by kernel_rfl) ?_
    refine cW_seq ?_
    refine cW_region ?_
    refine wS_pure 2 [(7, .bool (false)), (6, .int .i64 (0))] (by kernel_rfl) ?_
    refine wS_end (by rfl) ?_
    refine eX_then ?_
    refine cW_ret ?_
    refine eX_then_ret ?_
    have hq : (some ((0, false)) : Option ((Int) × (Bool))) = some _ := hm
    replace hq := someE hq
    subst hq
    refine eX_ret (vs := [.int .i64 (0), .bool (false)]) [.tmp 6, .tmp 7] (by rfl) ⟨by (show lkE _ _ _ = _); kernel_rfl, ⟨by (show lkE _ _ _ = _); kernel_rfl, trivial⟩⟩ ?_
    exact ⟨rfl, hB⟩
  · have hm := condF hb7 hm
    rewrite [hb7]
    refine wS_pure 8 [(24, .bool ((((l2).length : Int)) != (wr ((wr (2 * p0)) - 1)))), (23, .bool ((((l2).length : Int)) != (wr ((wr (2 * p0)) - 1)))), (22, .bool ((((l2).length : Int)) != (wr ((wr (2 * p0)) - 1)))), (21, .int .i64 (wr ((wr (2 * p0)) - 1))), (20, .int .i64 (wr (2 * p0))), (19, .int .i64 (p0)), (18, .int .i64 (((l2).length : Int))), (17, .slice A2 (l2).length cap2)] (by kernel_rfl) ?_
    refine wS_bool ((((l2).length : Int)) != (wr ((wr (2 * p0)) - 1))) (fun hb8 => ?_) (fun hb8 => ?_)
    · have hm := condT hb8 hm
      rewrite [hb8]
      refine wS_pure 3 [(27, .bool (true)), (26, undef), (25, undef)] (by kernel_rfl) ?_
      refine wS_end (by rfl) ?_
      refine eX_then ?_
      refine cW_cond_t (by kernel_rfl) ?_
      refine cW_seq ?_
      refine cW_region ?_
      refine wS_pure 2 [(7, .bool (false)), (6, .int .i64 (0))] (by kernel_rfl) ?_
      refine wS_end (by rfl) ?_
      refine eX_then ?_
      refine cW_ret ?_
      refine eX_then_ret ?_
      have hq : (some ((0, false)) : Option ((Int) × (Bool))) = some _ := hm
      replace hq := someE hq
      subst hq
      refine eX_ret (vs := [.int .i64 (0), .bool (false)]) [.tmp 6, .tmp 7] (by rfl) ⟨by (show lkE _ _ _ = _); kernel_rfl, ⟨by (show lkE _ _ _ = _); kernel_rfl, trivial⟩⟩ ?_
      exact ⟨rfl, hB⟩
    · have hm := condF hb8 hm
      rewrite [hb8]
      refine wS_pure 1 [(25, .slice A2 (l2).length cap2)] (by kernel_rfl) ?_
      obtain ⟨y9, hy10, hm⟩ := bindE hm
      refine wS_calls (d := 26) (f := 87) (vs := [.slice A2 (l2).length cap2, .func (.func 98) #[] #[]]) (by kernel_rfl) ent87 (c_slices_ContainsFunc_int64_int64_impl_SkewOf_1 hy10 F2) ?_
      rintro _ w11 ⟨rfl, hc12⟩
      replace F1 := F1.chg hc12 Dj.nil
      replace F2 := F2.chg hc12 Dj.nil
      replace hB := hB.inS hc12 inNil
      replace hZ := Nat.le_trans hZ hc12.size
      refine ⟨.bool (y9), rfl, ?_⟩
      refine wS_pure 1 [(27, .bool (y9))] (by kernel_rfl) ?_
      refine wS_end (by rfl) ?_
      refine eX_then ?_
      refine cW_cond (t := y9) (by kernel_rfl) (fun hb13 => ?_) (fun hb13 => ?_)
      · have hm := condT hb13 hm
        refine cW_seq ?_
        refine cW_region ?_
        refine wS_pure 2 [(7, .bool (false)), (6, .int .i64 (0))] (by kernel_rfl) ?_
        refine wS_end (by rfl) ?_
        refine eX_then ?_
        refine cW_ret ?_
        refine eX_then_ret ?_
        have hq : (some ((0, false)) : Option ((Int) × (Bool))) = some _ := hm
        replace hq := someE hq
        subst hq
        refine eX_ret (vs := [.int .i64 (0), .bool (false)]) [.tmp 6, .tmp 7] (by rfl) ⟨by (show lkE _ _ _ = _); kernel_rfl, ⟨by (show lkE _ _ _ = _); kernel_rfl, trivial⟩⟩ ?_
        exact ⟨rfl, hB⟩
      · have hm := condF hb13 hm
        refine cW_skip ?_
        refine eX_then ?_
        refine cW_seq ?_
        refine cW_region ?_
        refine wS_pure 2 [(29, .int .i64 (((l2).length : Int))), (28, .slice A2 (l2).length cap2)] (by kernel_rfl) ?_
        obtain ⟨_, hk14, hm⟩ := bindE hm
        replace hk14 := mkE hk14
        refine wS_make (enc := encI) (x0 := (0 : Int)) (d := 30) (t := 38) (T := 2) (k1 := .i64) (k2 := .i64) (m := ((l2).length : Int)) (by kernel_rfl) el38 encI_ok (by rfl) hk14.1 hk14.2 ?_
        intro b15 w16 G17 F18 hc19
        replace F1 := F1.chg hc19 Dj.nil
        replace F2 := F2.chg hc19 Dj.nil
        replace hB := hB.inS hc19 inNil
        replace G17 := Nat.le_trans hZ G17
        replace G17 := low1 G17
        replace hZ := Nat.le_trans hZ hc19.size
        refine wS_pure 1 [(8, .slice (some ⟨b15, 0, none⟩) (List.replicate (Int.toNat (((l2).length : Int))) ((0 : Int))).length (Int.toNat (((l2).length : Int))))] (by kernel_rfl) ?_
        refine wS_end (by rfl) ?_
        refine eX_then ?_
        refine cW_prune [(0, .int .i64 (p0)), (1, .slice A1 (l1).length cap1), (2, .slice A2 (l2).length cap2), (8, .slice (some ⟨b15, 0, none⟩) (List.replicate (Int.toNat (((l2).length : Int))) ((0 : Int))).length (Int.toNat (((l2).length : Int))))] (by kernel_rfl) (by kernel_rfl) (fun a21 => ?_)
        refine cW_seq ?_
        refine cW_seq ?_
        refine cW_region ?_
        refine wS_pure 4 [(9, .int .i64 (wr ((((l1).length : Int)) - 1))), (33, .int .i64 (wr ((((l1).length : Int)) - 1))), (32, .int .i64 (((l1).length : Int))), (31, .slice A1 (l1).length cap1)] (by kernel_rfl) ?_
        refine wS_end (by rfl) ?_
        refine eX_then ?_
        obtain ⟨r331, hr332, hm⟩ := bindE hm
        have hm333 := hm
        refine cW_cut (fun a' w' => ∃ l321 : List (Int), l321 = r331 ∧ Fr 71 [(0, .int .i64 (p0)), (8, .slice (some ⟨b15, 0, none⟩) (l321).length (Int.toNat (((l2).length : Int))))] a' ∧ Ow 1 encI 2 w' [b15] (some ⟨b15, 0, none⟩) (Int.toNat (((l2).length : Int))) l321 ∧ Chg [] w0 w' ∧ w0.heap.size ≤ w'.heap.size) ?_ ?_
        · refine cW_block ?_
          refine cW_loop _ (fun (s334 : Int × (List (Int))) a' w' => ∃ x325 : Int, ∃ l326 : List (Int), (x325, l326) = s334 ∧ Fr 71 [(0, .int .i64 (p0)), (1, .slice A1 (l1).length cap1), (2, .slice A2 (l2).length cap2), (8, .slice (some ⟨b15, 0, none⟩) (l326).length (Int.toNat (((l2).length : Int)))), (9, .int .i64 (x325))] a' ∧ SlR 1 encI w' fp1 A1 l1 ∧ Sl 1 encI w' fp2 A2 l2 ∧ Ow 1 encI 2 w' [b15] (some ⟨b15, 0, none⟩) (Int.toNat (((l2).length : Int))) l326 ∧ Chg [] w0 w' ∧ w0.heap.size ≤ w'.heap.size) hr332 (fun hst => ⟨wr ((((l1).length : Int)) - 1), List.replicate (Int.toNat (((l2).length : Int))) ((0 : Int)), rfl, Fr.of hst (by kernel_rfl), F1, F2, F18, hB, hZ⟩) ?_
          rintro _ c335 a' w324 ⟨x325, l326, rfl, hF327, F328, F329, F330, hB, hZ⟩ hx336
          refine Fr.goOn hF327 (by kernel_rfl) ?_
          have hm := hx336
          unfold m_impl_SkewOf_s3 at hm
          refine cW_seq ?_
          refine cW_seq ?_
          refine cW_region ?_
          refine wS_pure 2 [(35, .bool (decide (x325 ≥ 0))), (34, .int .i64 (x325))] (by kernel_rfl) ?_
          refine wS_end (by rfl) ?_
          refine eX_then ?_
          refine cW_cond (t := decide (x325 ≥ 0)) (by kernel_rfl) (fun hb337 => ?_) (fun hb337 => ?_)
          · have hm := condT hb337 hm
            refine cW_skip ?_
            refine eX_then ?_
            refine cW_seq ?_
            refine cW_block ?_
            refine cW_seq ?_
            refine cW_region ?_
            refine wS_pure 2 [(39, .int .i64 (x325)), (38, .slice A1 (l1).length cap1)] (by kernel_rfl) ?_
            obtain ⟨x338, hx339, hm⟩ := bindE hm
            refine wS_idx (d := 40) (T := 37) (A := A1) (n := (l1).length) (cap := cap1) (kd := .i64) (m := x325) (by kernel_rfl) sl37 (F328.is hx339) ?_
            obtain ⟨A340, cap341, hc343, F342, K344⟩ := SlR.row F328 hx339
            refine wS_load1 (d := 41) (T := 38) (ad := (elA A1 1 (x325) 0)) (v := .slice A340 (x338).length cap341) (by kernel_rfl) vt38 hc343 ?_
            refine wS_pure 2 [(43, .int .i64 (0)), (42, .int .i64 (((x338).length : Int)))] (by kernel_rfl) ?_
            refine wS_end (by rfl) ?_
            refine eX_then ?_
            obtain ⟨r440, hr441, hm⟩ := bindE hm
            have hm442 := hm
            refine cW_cut (fun a' w' => ∃ l427 : List (Int), l427 = r440 ∧ Fr 71 [(0, .int .i64 (p0)), (1, .slice A1 (l1).length cap1), (2, .slice A2 (l2).length cap2), (8, .slice (some ⟨b15, 0, none⟩) (l427).length (Int.toNat (((l2).length : Int)))), (9, .int .i64 (x325))] a' ∧ SlR 1 encI w' fp1 A1 l1 ∧ Sl 1 encI w' fp2 A2 l2 ∧ Ow 1 encI 2 w' [b15] (some ⟨b15, 0, none⟩) (Int.toNat (((l2).length : Int))) l427 ∧ Chg [] w0 w' ∧ w0.heap.size ≤ w'.heap.size) ?_ ?_
            · refine cW_block ?_
              refine cW_loop _ (fun (s443 : Int × (List (Int))) a' w' => ∃ x433 : Int, ∃ l434 : List (Int), (x433, l434) = s443 ∧ Fr 71 [(0, .int .i64 (p0)), (1, .slice A1 (l1).length cap1), (2, .slice A2 (l2).length cap2), (8, .slice (some ⟨b15, 0, none⟩) (l434).length (Int.toNat (((l2).length : Int)))), (9, .int .i64 (x325)), (41, .slice A340 (x338).length cap341), (42, .int .i64 (((x338).length : Int))), (43, .int .i64 (x433))] a' ∧ SlR 1 encI w' fp1 A1 l1 ∧ Sl 1 encI w' fp2 A2 l2 ∧ Ow 1 encI 2 w' [b15] (some ⟨b15, 0, none⟩) (Int.toNat (((l2).length : Int))) l434 ∧ Sl 1 encI w' fp1 A340 x338 ∧ Chg [] w0 w' ∧ w0.heap.size ≤ w'.heap.size) hr441 (fun hst => ⟨0, l326, rfl, Fr.of hst (by kernel_rfl), F328, F329, F330, F342, hB, hZ⟩) ?_
              rintro _ c444 a' w432 ⟨x433, l434, rfl, hF435, F436, F437, F438, F439, hB, hZ⟩ hx445
              refine Fr.goOn hF435 (by kernel_rfl) ?_
              have hm := hx445
              unfold m_impl_SkewOf_s4 at hm
              refine cW_seq ?_
              refine cW_region ?_
              refine wS_pure 1 [(44, .bool (decide (x433 < (((x338).length : Int)))))] (by kernel_rfl) ?_
              refine wS_end (by rfl) ?_
              refine eX_then ?_
              refine cW_seq ?_
              refine cW_cond (t := decide (x433 < (((x338).length : Int)))) (by kernel_rfl) (fun hb446 => ?_) (fun hb446 => ?_)
              · have hm := condT hb446 hm
                refine cW_skip ?_
                refine eX_then ?_
                refine cW_seq ?_
                refine cW_block ?_
                refine cW_seq ?_
                refine cW_region ?_
                obtain ⟨x447, hx448, hm⟩ := bindE hm
                refine wS_idx (d := 45) (T := 38) (A := A340) (n := (x338).length) (cap := cap341) (kd := .i64) (m := x433) (by kernel_rfl) sl38 (F439.is hx448) ?_
                refine wS_load1 (d := 46) (T := 2) (ad := (elA A340 1 (x433) 0)) (v := .int .i64 (x447)) (by kernel_rfl) vt2 (Sl.cell F439 hx448 0 (by rfl)) ?_
                refine wS_pure 1 [(11, .int .i64 (x447))] (by kernel_rfl) ?_
                refine wS_end (by rfl) ?_
                refine eX_then ?_
                refine cW_drawnTail [] 13 (by kernel_rfl) (by kernel_rfl) (fun w464 hc465 => ?_)
                replace F436 := F436.chg hc465 Dj.nil
                replace F437 := F437.chg hc465 Dj.nil
                replace F438 := F438.chg hc465 Dj.nil
                replace F439 := F439.chg hc465 Dj.nil
                replace hB := hB.inS hc465 inNil
                replace hZ := Nat.le_trans hZ hc465.size
                have hS := Chg.refl [] w464
                have Z466 := F436
                have Z467 := F437
                have Z468 := F438
                have Z469 := F439
                refine wH_take [0, 1, 2, 3, 4, 5] [5, 4, 3, 2, 1, 0] [(52, .int .i64 (wr (p0 + x325))), (51, .int .i64 (x325)), (50, .int .i64 (p0)), (49, .slice (some ⟨b15, 0, none⟩) (l434).length (Int.toNat (((l2).length : Int)))), (48, .int .i64 (x447)), (47, .slice (some ⟨b15, 0, none⟩) (l434).length (Int.toNat (((l2).length : Int))))] (by kernel_rfl) (qT (qB (qT (qL (qB (qT (qB (qT (qL (qB (qT (qT qZ)))))))))))) (by kernel_rfl) ?_
                obtain ⟨x470, hx471, hm⟩ := bindE hm
                refine wH_idx (i := 6) (d := 53) (T := 38) (A := (some ⟨b15, 0, none⟩)) (n := (l434).length) (cap := (Int.toNat (((l2).length : Int)))) (kd := .i64) (m := wr (p0 + x325)) (by kernel_rfl) (qT (qB (qT (qL (qB (qT (qB (qT (qL (qB (qT (qT qZ)))))))))))) (by kernel_rfl) (by kernel_rfl) sl38 ((F438.sl encI_ok).is hx471) ?_
                refine wH_load1 (i := 7) (d := 54) (T := 2) (ad := (elA (some ⟨b15, 0, none⟩) 1 (wr (p0 + x325)) 0)) (v := .int .i64 (x470)) (by kernel_rfl) (qT (qB (qT (qL (qB (qT (qB (qT (qL (qB (qT (qT qZ)))))))))))) (by kernel_rfl) (by kernel_rfl) vt2 (fun W hW => Sl.cell ((Z468.chg hW Dj.nil).sl encI_ok) hx471 0 (by rfl)) ?_
                refine wH_take [8, 9] [9, 8, 7, 6, 5, 4, 3, 2, 1, 0] [(56, .int .i64 (x447)), (55, .slice A2 (l2).length cap2)] (by kernel_rfl) (qT (qB (qT (qL (qB (qT (qB (qT (qL (qB (qT (qT qZ)))))))))))) (by kernel_rfl) ?_
                obtain ⟨x472, hx473, hm⟩ := bindE hm
                refine wH_idx (i := 10) (d := 57) (T := 38) (A := A2) (n := (l2).length) (cap := cap2) (kd := .i64) (m := x447) (by kernel_rfl) (qT (qB (qT (qL (qB (qT (qB (qT (qL (qB (qT (qT qZ)))))))))))) (by kernel_rfl) (by kernel_rfl) sl38 (F437.is hx473) ?_
                refine wH_load1 (i := 11) (d := 58) (T := 2) (ad := (elA A2 1 (x447) 0)) (v := .int .i64 (x472)) (by kernel_rfl) (qT (qB (qT (qL (qB (qT (qB (qT (qL (qB (qT (qT qZ)))))))))))) (by kernel_rfl) (by kernel_rfl) vt2 (fun W hW => Sl.cell (Z467.chg hW Dj.nil) hx473 0 (by rfl)) ?_
                refine wH_take [12] [12, 11, 10, 9, 8, 7, 6, 5, 4, 3, 2, 1, 0] [(59, .int .i64 (wr (x470 + x472)))] (by kernel_rfl) (qT (qB (qT (qL (qB (qT (qB (qT (qL (qB (qT (qT qZ)))))))))))) (by kernel_rfl) ?_
                refine wH_done (by kernel_rfl) ?_
                refine eX_tail ?_
                obtain ⟨x474, hx475, hm⟩ := bindE hm
                refine wS_idx (d := 60) (T := 38) (A := (some ⟨b15, 0, none⟩)) (n := (l434).length) (cap := (Int.toNat (((l2).length : Int)))) (kd := .i64) (m := x447) (by kernel_rfl) sl38 ((F438.sl encI_ok).is hx475) ?_
                refine wS_storeEl (x := x474) (wr (x470 + x472)) (T := 2) (U := 2) (cap := (Int.toNat (((l2).length : Int)))) (j := 0) (A := (some ⟨b15, 0, none⟩)) (v := .int .i64 (wr (x470 + x472))) (vs := [.int .i64 (wr (x470 + x472))]) (m := x447) (by kernel_rfl) (by rfl) sz2 (by rfl) encI_ok F438 hx475 (by simp only [List.length_cons, List.length_nil]; omega) (by rfl) ?_
                intro w476 F477 hc478
                replace F436 := F436.chg hc478 (Dj.of L1 G17)
                replace F437 := F437.chg hc478 (Dj.of L2 G17)
                replace F439 := F439.chg hc478 (Dj.of L1 G17)
                replace hB := hB.inS hc478 (inLow G17)
                replace hZ := Nat.le_trans hZ hc478.size
                clear F438
                rewrite [show (l434).length = (l434.set (Int.toNat x447) (wr (x470 + x472))).length from (List.length_set ..).symm]
                refine wS_end (by rfl) ?_
                refine eX_block ?_
                refine eX_then ?_
                refine cW_prune [(0, .int .i64 (p0)), (1, .slice A1 (l1).length cap1), (2, .slice A2 (l2).length cap2), (8, .slice (some ⟨b15, 0, none⟩) (l434.set (Int.toNat x447) (wr (x470 + x472))).length (Int.toNat (((l2).length : Int)))), (9, .int .i64 (x325)), (41, .slice A340 (x338).length cap341), (42, .int .i64 (((x338).length : Int))), (43, .int .i64 (x433))] (by kernel_rfl) (by kernel_rfl) (fun a479 => ?_)
                refine cW_region ?_
                refine wS_pure 2 [(43, .int .i64 (wr (x433 + 1))), (61, .int .i64 (wr (x433 + 1)))] (by kernel_rfl) ?_
                refine wS_end (by rfl) ?_
                have hq : (some (Ctl.next ((wr (x433 + 1), l434.set (Int.toNat x447) (wr (x470 + x472))))) : Option (Ctl (Int × (List (Int))) ((List (Int))))) = some _ := hm
                replace hq := someE hq
                subst hq
                exact eX_next hx445 (fun hst => ⟨wr (x433 + 1), l434.set (Int.toNat x447) (wr (x470 + x472)), rfl, Fr.of hst (by kernel_rfl), F436, F437, F477, F439, hB, hZ⟩)
              · have hm := condF hb446 hm
                refine cW_exit ?_
                refine eX_then_exit ?_
                have hq : (some (Ctl.out l434) : Option (Ctl (Int × (List (Int))) ((List (Int))))) = some _ := hm
                replace hq := someE hq
                subst hq
                refine eX_outX hx445 (fun hr480 => ?_)
                replace hr480 := hr480.symm
                subst hr480
                refine eX_block_hit ?_
                exact eX_J (fun hst => ⟨l434, rfl, Fr.of hst (by kernel_rfl), F436, F437, F438, hB, hZ⟩)
            · rintro a' w426 ⟨l427, hJ, hF428, F429, F430, F431, hB, hZ⟩
              subst hJ
              refine Fr.goX hF428 (by kernel_rfl) ?_
              refine eX_block ?_
              refine eX_then ?_
              refine cW_region ?_
              refine wS_pure 3 [(9, .int .i64 (wr (x325 - 1))), (37, .int .i64 (wr (x325 - 1))), (36, .int .i64 (x325))] (by kernel_rfl) ?_
              refine wS_end (by rfl) ?_
              have hq : (some (Ctl.next ((wr (x325 - 1), l427))) : Option (Ctl (Int × (List (Int))) ((List (Int))))) = some _ := hm
              replace hq := someE hq
              subst hq
              exact eX_next hx336 (fun hst => ⟨wr (x325 - 1), l427, rfl, Fr.of hst (by kernel_rfl), F429, F430, F431, hB, hZ⟩)
          · have hm := condF hb337 hm
            refine cW_exit ?_
            refine eX_then_exit ?_
            have hq : (some (Ctl.out l326) : Option (Ctl (Int × (List (Int))) ((List (Int))))) = some _ := hm
            replace hq := someE hq
            subst hq
            refine eX_outX hx336 (fun hr481 => ?_)
            replace hr481 := hr481.symm
            subst hr481
            refine eX_block_hit ?_
            exact eX_J (fun hst => ⟨l326, rfl, Fr.of hst (by kernel_rfl), F330, hB, hZ⟩)
        · rintro a' w320 ⟨l321, hJ, hF322, F323, hB, hZ⟩
          subst hJ
          refine Fr.goX hF322 (by kernel_rfl) ?_
          refine eX_then ?_
          refine cW_seq ?_
          refine cW_drawnTail [] 7 (by kernel_rfl) (by kernel_rfl) (fun w511 hc512 => ?_)
          replace F323 := F323.chg hc512 Dj.nil
          replace hB := hB.inS hc512 inNil
          replace hZ := Nat.le_trans hZ hc512.size
          have hS := Chg.refl [] w511
          have Z513 := F323
          refine wH_take [0, 1] [1, 0] [(63, .int .i64 (p0)), (62, .slice (some ⟨b15, 0, none⟩) (l321).length (Int.toNat (((l2).length : Int))))] (by kernel_rfl) (qT (qT qZ)) (by kernel_rfl) ?_
          obtain ⟨y514, hy515, hm⟩ := bindE hm
          refine wH_slice (k := 1) (enc := encI) (fp := [b15]) (l := l321) (i := 2) (d := 64) (T := 38) (A := (some ⟨b15, 0, none⟩)) (cap := (Int.toNat (((l2).length : Int)))) (vlo := none) (vhi := some (.int .i64 (p0))) (lo := 0) (hi := p0) (n := 0) (by kernel_rfl) (qT (qT qZ)) (by kernel_rfl) (by kernel_rfl) sl38 (Or.inr ⟨rfl, rfl⟩) (Or.inl rfl) F323.cap_le hy515 ?_
          intro A516 cap517 hcut518 hcap519
          have F520 := hcut518 _ (F323.sl encI_ok)
          have Fz521 := hcut518 _ (Z513.sl encI_ok)
          refine wH_take [4, 5] [5, 4, 2, 1, 0] [(67, .int .i64 (p0)), (66, .slice (some ⟨b15, 0, none⟩) (l321).length (Int.toNat (((l2).length : Int))))] (by kernel_rfl) (qT (qT qZ)) (by kernel_rfl) ?_
          obtain ⟨y523, hy524, hm⟩ := bindE hm
          refine wH_slice (k := 1) (enc := encI) (fp := [b15]) (l := l321) (i := 6) (d := 68) (T := 38) (A := (some ⟨b15, 0, none⟩)) (cap := (Int.toNat (((l2).length : Int)))) (vlo := none) (vhi := some (.int .i64 (p0))) (lo := 0) (hi := p0) (n := 0) (by kernel_rfl) (qT (qT qZ)) (by kernel_rfl) (by kernel_rfl) sl38 (Or.inr ⟨rfl, rfl⟩) (Or.inl rfl) F323.cap_le hy524 ?_
          intro A525 cap526 hcut527 hcap528
          have F529 := hcut527 _ (F323.sl encI_ok)
          have Fz530 := hcut527 _ (Z513.sl encI_ok)
          refine wH_all [3] (by rfl) (by kernel_rfl) (by simp) ⟨⟨by kernel_rfl, ?_⟩, trivial⟩
          obtain ⟨y532, hy533, hm⟩ := bindE hm
          refine wS_calls (d := 65) (f := 99) (vs := [.slice A516 (y514).length cap517]) (by kernel_rfl) ent99 (c_slices_Max_int64_int64 hy533 F520) ?_
          rintro _ w534 ⟨rfl, hc535⟩
          replace F323 := F323.chg hc535 Dj.nil
          replace F520 := F520.chg hc535 Dj.nil
          replace F529 := F529.chg hc535 Dj.nil
          replace hB := hB.inS hc535 inNil
          have hSz := hS
          replace hS := hS.inS hc535 inNil
          replace hZ := Nat.le_trans hZ hc535.size
          refine ⟨.int .i64 (y532), rfl, ?_⟩
          refine wS_end (by kernel_rfl) ?_
          refine eX_KH hS ?_
          refine wH_done (by kernel_rfl) ?_
          refine eX_tail ?_
          obtain ⟨y536, hy537, hm⟩ := bindE hm
          refine wS_calls (d := 69) (f := 100) (vs := [.slice A525 (y523).length cap526]) (by kernel_rfl) ent100 (c_slices_Min_int64_int64 hy537 F529) ?_
          rintro _ w538 ⟨rfl, hc539⟩
          replace F323 := F323.chg hc539 Dj.nil
          replace F520 := F520.chg hc539 Dj.nil
          replace F529 := F529.chg hc539 Dj.nil
          replace hB := hB.inS hc539 inNil
          replace hZ := Nat.le_trans hZ hc539.size
          refine ⟨.int .i64 (y536), rfl, ?_⟩
          refine wS_pure 3 [(7, .bool (true)), (6, .int .i64 (wr (y532 - y536))), (70, .int .i64 (wr (y532 - y536)))] (by kernel_rfl) ?_
          refine wS_end (by rfl) ?_
          refine eX_then ?_
          refine cW_ret ?_
          have hq : (some ((wr (y532 - y536), true)) : Option ((Int) × (Bool))) = some _ := hm
          replace hq := someE hq
          subst hq
          refine eX_ret (vs := [.int .i64 (wr (y532 - y536)), .bool (true)]) [.tmp 6, .tmp 7] (by rfl) ⟨by (show lkE _ _ _ = _); kernel_rfl, ⟨by (show lkE _ _ _ = _); kernel_rfl, trivial⟩⟩ ?_
          exact ⟨rfl, hB⟩

set_option maxRecDepth 100000 in
/-- laws.r8At -/
theorem c_laws_r8At {w0 : World} {l0 : List (Int)} {A0 : Option Addr} {cap0 : Nat} {fp0 : List Nat} {p1 : Int} {p2 : Int} {r : (Int)} (hm : m_laws_r8At l0 p1 p2 = some r) (F0 : Sl 1 encU w0 fp0 A0 l0) :
    Calls Try.prog 45 #[.slice A0 (l0).length cap0, .int .i64 (p1), .int .i64 (p2)] w0 fun e w' => e = .returned (.int .i64 (r)) ∧ Chg [] w0 w' := by
  have L0 := F0.low
  have hB : Chg [] w0 w0 := Chg.refl _ _
  have hZ := Nat.le_refl w0.heap.size
  unfold m_laws_r8At at hm
  refine enterE (N := 22) Try.func45 (by rfl) Try.ntmps45 (by simp) [(0, .slice A0 (l0).length cap0), (1, .int .i64 (p1)), (2, .int .i64 (p2))] (by rfl) (by kernel_rfl) (fun a => ?_)
  refine cW_seq ?_
  refine cW_region ?_
  refine wS_pure 1 [(6, .int .i64 (0))] (by kernel_rfl) ?_
  refine wS_end (by rfl) ?_
  refine eX_then ?_
  refine cW_seq ?_
  refine cW_seq ?_
  refine cW_region ?_
  refine wS_pure 3 [(9, .bool (decide (p2 ≤ 1))), (8, .bool (decide (p2 ≤ 1))), (7, .int .i64 (p2))] (by kernel_rfl) ?_
  refine wS_bool (decide (p2 ≤ 1)) (fun hb2 => ?_) (fun hb2 => ?_)
  · have hm := condT hb2 hm
    rewrite [hb2]
    refine wS_pure 5 [(14, .bool (true)), (13, undef), (12, undef), (11, undef), (10, undef)] (by kernel_rfl) ?_
    refine wS_end (by rfl) ?_
    refine eX_then ?_
    refine cW_cond_t (by kernel_rfl) ?_
    refine cW_seq ?_
    refine cW_region ?_
    refine wS_pure 1 [(6, .int .i64 (0))] (by kernel_rfl) ?_
    refine wS_end (by rfl) ?_
    refine eX_then ?_
    refine cW_ret ?_
    refine eX_then_ret ?_
    have hq : (some 0 : Option ((Int))) = some _ := hm
    replace hq := someE hq
    subst hq
    refine eX_ret (vs := [.int .i64 (0)]) [.tmp 6] (by rfl) ⟨by (show lkE _ _ _ = _); kernel_rfl, trivial⟩ ?_
    exact ⟨rfl, hB⟩
  · have hm := condF hb2 hm
    rewrite [hb2]
    refine wS_pure 5 [(14, .bool (decide (p1 ≥ (((l0).length : Int))))), (13, .bool (decide (p1 ≥ (((l0).length : Int))))), (12, .int .i64 (((l0).length : Int))), (11, .slice A0 (l0).length cap0), (10, .int .i64 (p1))] (by kernel_rfl) ?_
    refine wS_end (by rfl) ?_
    refine eX_then ?_
    refine cW_cond (t := decide (p1 ≥ (((l0).length : Int)))) (by kernel_rfl) (fun hb3 => ?_) (fun hb3 => ?_)
    · have hm := condT hb3 hm
      refine cW_seq ?_
      refine cW_region ?_
      refine wS_pure 1 [(6, .int .i64 (0))] (by kernel_rfl) ?_
      refine wS_end (by rfl) ?_
      refine eX_then ?_
      refine cW_ret ?_
      refine eX_then_ret ?_
      have hq : (some 0 : Option ((Int))) = some _ := hm
      replace hq := someE hq
      subst hq
      refine eX_ret (vs := [.int .i64 (0)]) [.tmp 6] (by rfl) ⟨by (show lkE _ _ _ = _); kernel_rfl, trivial⟩ ?_
      exact ⟨rfl, hB⟩
    · have hm := condF hb3 hm
      refine cW_skip ?_
      refine eX_then ?_
      refine cW_seq ?_
      refine cW_region ?_
      refine wS_pure 2 [(16, .int .i64 (p1)), (15, .slice A0 (l0).length cap0)] (by kernel_rfl) ?_
      obtain ⟨x4, hx5, hm⟩ := bindE hm
      refine wS_idx (d := 17) (T := 22) (A := A0) (n := (l0).length) (cap := cap0) (kd := .i64) (m := p1) (by kernel_rfl) sl22 (F0.is hx5) ?_
      refine wS_load1 (d := 18) (T := 5) (ad := (elA A0 1 (p1) 0)) (v := .int .u8 (x4)) (by kernel_rfl) vt5 (Sl.cell F0 hx5 0 (by rfl)) ?_
      refine wS_pure 2 [(20, .int .i64 (p2)), (19, .int .i64 (wr x4))] (by kernel_rfl) ?_
      obtain ⟨u6, hu7, hm⟩ := bindE hm
      refine wS_rem (d := 21) (x := wr x4) (y := p2) (by kernel_rfl) (nzE hu7) ?_
      refine wS_pure 1 [(6, .int .i64 (Int.tmod (wr x4) p2))] (by kernel_rfl) ?_
      refine wS_end (by rfl) ?_
      refine eX_then ?_
      refine cW_ret ?_
      have hq : (some (Int.tmod (wr x4) p2) : Option ((Int))) = some _ := hm
      replace hq := someE hq
      subst hq
      refine eX_ret (vs := [.int .i64 (Int.tmod (wr x4) p2)]) [.tmp 6] (by rfl) ⟨by (show lkE _ _ _ = _); kernel_rfl, trivial⟩ ?_
      exact ⟨rfl, hB⟩

end Go.Proofs.Ytajnjbmniobjhaa
