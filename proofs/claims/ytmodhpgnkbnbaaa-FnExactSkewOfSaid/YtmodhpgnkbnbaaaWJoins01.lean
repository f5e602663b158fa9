/- Printed walks: impl.in, impl.IsJoins, laws.szInt64S, laws.szInt64SS, laws.toInt64S, laws.toInt64SS, spec.l00In, spec.l06Joins, spec.IsJoins, laws.eqInt64S, laws.eqInt64SS, laws.FnExactIsJoins. -/
import Derived.Test.YtmodhpgnkbnbaaaProg
import Derived.Test.YtmodhpgnkbnbaaaMap
set_option linter.unusedSimpArgs false
set_option linter.unusedVariables false
namespace Go.Proofs.Ytmodhpgnkbnbaaa
open Go.RowKit
attribute [local irreducible] wS cW eX wH

theorem ent36 : Ent Try.prog 36 := fun _ => by kernel_rfl
theorem ent37 : Ent Try.prog 37 := fun _ => by kernel_rfl
theorem ent38 : Ent Try.prog 38 := fun _ => by kernel_rfl
theorem ent39 : Ent Try.prog 39 := fun _ => by kernel_rfl
theorem ent40 : Ent Try.prog 40 := fun _ => by kernel_rfl
theorem ent53 : Ent Try.prog 53 := fun _ => by kernel_rfl
theorem ent55 : Ent Try.prog 55 := fun _ => by kernel_rfl
theorem ent79 : Ent Try.prog 79 := fun _ => by kernel_rfl
theorem ent88 : Ent Try.prog 88 := fun _ => by kernel_rfl
theorem ent93 : Ent Try.prog 93 := fun _ => by kernel_rfl
theorem ent94 : Ent Try.prog 94 := fun _ => by kernel_rfl
theorem vt2 : VarTy Try.prog 2 1 false := ⟨by kernel_rfl, by kernel_rfl⟩
theorem vt4 : VarTy Try.prog 4 1 false := ⟨by kernel_rfl, by kernel_rfl⟩
theorem vt68 : VarTy Try.prog 68 1 false := ⟨by kernel_rfl, by kernel_rfl⟩
theorem sl44 : SlTy Try.prog 44 68 1 := ⟨Try.underlying44, by kernel_rfl⟩
theorem sl68 : SlTy Try.prog 68 2 1 := ⟨Try.underlying68, by kernel_rfl⟩
theorem sl130 : SlTy Try.prog 130 4 1 := ⟨Try.underlying130, by kernel_rfl⟩
theorem el44 : ElTy Try.prog 44 68 1 (.slice none 0 0) := ElTy.mk' Try.underlying44 (by kernel_rfl) (by rfl)
theorem el68 : ElTy Try.prog 68 2 1 (.int .i64 (0)) := ElTy.mk' Try.underlying68 (by kernel_rfl) (by rfl)
theorem el130 : ElTy Try.prog 130 4 1 (.bool (false)) := ElTy.mk' Try.underlying130 (by kernel_rfl) (by rfl)
theorem mk103 : MK Try.prog 2 kI okI := mkI Try.underlying2
theorem mp103 : MpTy Try.prog 103 2 4 (vB false) := ⟨Try.underlying103, by kernel_rfl⟩
theorem sz2 : pureRun Try.prog (sizeOf 2) = some 1 := by kernel_rfl
theorem sz4 : pureRun Try.prog (sizeOf 4) = some 1 := by kernel_rfl
theorem sz68 : pureRun Try.prog (sizeOf 68) = some 1 := by kernel_rfl

def m_impl_in (p0 : Int) (p1 : Int) (p2 : Int) : Option ((Bool)) :=
  (bif decide (p0 ≥ p1) then some (decide (p0 ≤ p2)) else some false)
set_option maxRecDepth 100000 in
/-- impl.in -/
theorem c_impl_in {w0 : World} {p0 : Int} {p1 : Int} {p2 : Int} {r : (Bool)} (hm : m_impl_in p0 p1 p2 = some r)  :
    Calls Try.prog 79 #[.int .i64 (p0), .int .i64 (p1), .int .i64 (p2)] w0 fun e w' => e = .returned (.bool (r)) ∧ Chg [] w0 w' := by
  have hB : Chg [] w0 w0 := Chg.refl _ _
  have hZ := Nat.le_refl w0.heap.size
  unfold m_impl_in at hm
  refine enterE (N := 15) Try.func79 (by rfl) Try.ntmps79 (by simp) [(0, .int .i64 (p0)), (1, .int .i64 (p1)), (2, .int .i64 (p2))] (by rfl) (by kernel_rfl) (fun a => ?_)
  refine cW_seq ?_
  refine cW_region ?_
  refine wS_pure 1 [(6, .bool (false))] (by kernel_rfl) ?_
  refine wS_end (by rfl) ?_
  refine eX_then ?_
  refine cW_seq ?_
  refine cW_region ?_
  refine wS_pure 4 [(10, .bool (decide (p0 ≥ p1))), (9, .bool (decide (p0 ≥ p1))), (8, .int .i64 (p1)), (7, .int .i64 (p0))] (by kernel_rfl) ?_
  refine wS_bool (decide (p0 ≥ p1)) (fun hb1 => ?_) (fun hb1 => ?_)
  · have hm := condT hb1 hm
    rewrite [hb1]
    refine wS_pure 5 [(6, .bool (decide (p0 ≤ p2))), (14, .bool (decide (p0 ≤ p2))), (13, .bool (decide (p0 ≤ p2))), (12, .int .i64 (p2)), (11, .int .i64 (p0))] (by kernel_rfl) ?_
    refine wS_end (by rfl) ?_
    refine eX_then ?_
    refine cW_ret ?_
    have hq : (some (decide (p0 ≤ p2)) : Option ((Bool))) = some _ := hm
    replace hq := someE hq
    subst hq
    refine eX_ret (vs := [.bool (decide (p0 ≤ p2))]) [.tmp 6] (by rfl) ⟨by (show lkE _ _ _ = _); kernel_rfl, trivial⟩ ?_
    exact ⟨rfl, hB⟩
  · have hm := condF hb1 hm
    rewrite [hb1]
    refine wS_pure 5 [(6, .bool (false)), (14, .bool (false)), (13, undef), (12, undef), (11, undef)] (by kernel_rfl) ?_
    refine wS_end (by rfl) ?_
    refine eX_then ?_
    refine cW_ret ?_
    have hq : (some false : Option ((Bool))) = some _ := hm
    replace hq := someE hq
    subst hq
    refine eX_ret (vs := [.bool (false)]) [.tmp 6] (by rfl) ⟨by (show lkE _ _ _ = _); kernel_rfl, trivial⟩ ?_
    exact ⟨rfl, hB⟩

def m_impl_IsJoins_s1 (p0 : Int) (l1 : List (List (Int))) (s275 : Int × (List (Int × Bool))) : Option (Ctl (Int × (List (Int × Bool))) (Sum (Unit) ((Bool)))) :=
  match s275 with | (x267, l268) => (bif decide (x267 < (((l1).length : Int))) then Option.bind (geti l1 x267) fun x279 => (bif (((x279).length : Int)) != 2 then some (Ctl.out (Sum.inr false)) else Option.bind (geti x279 0) fun x319 => (bif decide (x319 < 0) then some (Ctl.out (Sum.inr false)) else Option.bind (geti x279 0) fun x323 => Option.bind (geti x279 1) fun x325 => (bif decide (x323 ≥ x325) then some (Ctl.out (Sum.inr false)) else Option.bind (geti x279 1) fun x329 => (bif decide (x329 ≥ (wr (p0 + x267))) then some (Ctl.out (Sum.inr false)) else Option.bind (geti x279 0) fun x333 => Option.bind (mgC (okI x333) false l268 x333) fun y335 => (bif y335 then some (Ctl.out (Sum.inr false)) else Option.bind (geti x279 1) fun x339 => Option.bind (mgC (okI x339) false l268 x339) fun y341 => (bif y341 then some (Ctl.out (Sum.inr false)) else Option.bind (geti x279 0) fun x377 => Option.bind (geti x279 1) fun x379 => Option.bind (mpC (okI x377)) fun _ => Option.bind (mpC (okI x379)) fun _ => some (Ctl.next ((wr (x267 + 1), mset (ment false (mset (ment false l268 x377) x377 true) x379) x379 true))))))))) else some (Ctl.out (Sum.inl (()))))
noncomputable def m_impl_IsJoins (p0 : Int) (l1 : List (List (Int))) : Option ((Bool)) :=
  Option.bind (m_impl_in p0 2 12) fun y2 => (bif !y2 then some false else (bif (((l1).length : Int)) != (wr (p0 - 1)) then some false else Option.bind (loopM (m_impl_IsJoins_s1 p0 l1) ((0, ([] : List (Int × Bool))))) fun (r272 : Sum (Unit) ((Bool))) => match r272 with | Sum.inl q401 => (some true) | Sum.inr v400 => some v400))
set_option maxRecDepth 100000 in
/-- impl.IsJoins -/
theorem c_impl_IsJoins {w0 : World} {p0 : Int} {l1 : List (List (Int))} {A1 : Option Addr} {cap1 : Nat} {fp1 : List Nat} {r : (Bool)} (hm : m_impl_IsJoins p0 l1 = some r) (F1 : SlR 1 encI w0 fp1 A1 l1) :
    Calls Try.prog 39 #[.int .i64 (p0), .slice A1 (l1).length cap1] w0 fun e w' => e = .returned (.bool (r)) ∧ Chg [] w0 w' := by
  have L1 := F1.low
  have hB : Chg [] w0 w0 := Chg.refl _ _
  have hZ := Nat.le_refl w0.heap.size
  unfold m_impl_IsJoins at hm
  refine enterE (N := 80) Try.func39 (by rfl) Try.ntmps39 (by simp) [(0, .int .i64 (p0)), (1, .slice A1 (l1).length cap1)] (by rfl) (by kernel_rfl) (fun a => ?_)
  refine cW_seq ?_
  refine cW_region ?_
  refine wS_pure 1 [(4, .bool (false))] (by kernel_rfl) ?_
  refine wS_end (by rfl) ?_
  refine eX_then ?_
  refine cW_seq ?_
  refine cW_seq ?_
  refine cW_region ?_
  refine wS_pure 1 [(8, .int .i64 (p0))] (by kernel_rfl) ?_
  obtain ⟨y2, hy3, hm⟩ := bindE hm
  refine wS_calls (d := 9) (f := 79) (vs := [.int .i64 (p0), .int .i64 (2), .int .i64 (12)]) (by kernel_rfl) ent79 (c_impl_in hy3) ?_
  rintro _ w4 ⟨rfl, hc5⟩
  replace F1 := F1.chg hc5 Dj.nil
  replace hB := hB.inS hc5 inNil
  replace hZ := Nat.le_trans hZ hc5.size
  refine ⟨.bool (y2), rfl, ?_⟩
  refine wS_pure 2 [(11, .bool (!y2)), (10, .bool (!y2))] (by kernel_rfl) ?_
  refine wS_bool (!y2) (fun hb6 => ?_) (fun hb6 => ?_)
  · have hm := condT hb6 hm
    rewrite [hb6]
    refine wS_pure 6 [(17, .bool (true)), (16, undef), (15, undef), (14, undef), (13, undef), (12, undef)] (by kernel_rfl) ?_
    refine wS_end (by rfl) ?_
    refine eX_then ?_
    refine cW_cond_t (by kernel_rfl) ?_
    refine cW_seq ?_
    refine cW_region ?_
    refine wS_pure 1 [(4, .bool (false))] (by kernel_rfl) ?_
    refine wS_end (by rfl) ?_
    refine eX_then ?_
    refine cW_ret ?_
    refine eX_then_ret ?_
    have hq : (some false : Option ((Bool))) = some _ := hm
    replace hq := someE hq
    subst hq
    refine eX_ret (vs := [.bool (false)]) [.tmp 4] (by rfl) ⟨by (show lkE _ _ _ = _); kernel_rfl, trivial⟩ ?_
    exact ⟨rfl, hB⟩
  · have hm := condF hb6 hm
    rewrite [hb6]
    refine wS_pure 6 [(17, .bool ((((l1).length : Int)) != (wr (p0 - 1)))), (16, .bool ((((l1).length : Int)) != (wr (p0 - 1)))), (15, .int .i64 (wr (p0 - 1))), (14, .int .i64 (p0)), (13, .int .i64 (((l1).length : Int))), (12, .slice A1 (l1).length cap1)] (by kernel_rfl) ?_
    refine wS_end (by rfl) ?_
    refine eX_then ?_
    refine cW_cond (t := (((l1).length : Int)) != (wr (p0 - 1))) (by kernel_rfl) (fun hb7 => ?_) (fun hb7 => ?_)
    · have hm := condT hb7 hm
      refine cW_seq ?_
      refine cW_region ?_
      refine wS_pure 1 [(4, .bool (false))] (by kernel_rfl) ?_
      refine wS_end (by rfl) ?_
      refine eX_then ?_
      refine cW_ret ?_
      refine eX_then_ret ?_
      have hq : (some false : Option ((Bool))) = some _ := hm
      replace hq := someE hq
      subst hq
      refine eX_ret (vs := [.bool (false)]) [.tmp 4] (by rfl) ⟨by (show lkE _ _ _ = _); kernel_rfl, trivial⟩ ?_
      exact ⟨rfl, hB⟩
    · have hm := condF hb7 hm
      refine cW_skip ?_
      refine eX_then ?_
      refine cW_seq ?_
      refine cW_region ?_
      refine wS_makeMap (V := Bool) (d := 18) (T := 103) (by kernel_rfl) okI kI vB ?_
      intro b8 w9 G10 F11 hc12
      replace F1 := F1.chg hc12 Dj.nil
      replace hB := hB.inS hc12 inNil
      replace G10 := Nat.le_trans hZ G10
      replace G10 := low1 G10
      replace hZ := Nat.le_trans hZ hc12.size
      refine wS_pure 1 [(5, .map (some b8))] (by kernel_rfl) ?_
      refine wS_end (by rfl) ?_
      refine eX_then ?_
      refine cW_seq ?_
      refine cW_seq ?_
      refine cW_region ?_
      refine wS_pure 3 [(21, .int .i64 (0)), (20, .int .i64 (((l1).length : Int))), (19, .slice A1 (l1).length cap1)] (by kernel_rfl) ?_
      refine wS_end (by rfl) ?_
      refine eX_then ?_
      obtain ⟨r272, hr273, hm⟩ := bindE hm
      have hm274 := hm
      refine cW_cut (fun a' w' => Sum.inl (()) = r272 ∧ Fr 80 [] a' ∧ Chg [] w0 w' ∧ w0.heap.size ≤ w'.heap.size) ?_ ?_
      · refine cW_block ?_
        refine cW_loop _ (fun (s275 : Int × (List (Int × Bool))) a' w' => ∃ x267 : Int, ∃ l268 : List (Int × Bool), (x267, l268) = s275 ∧ Fr 80 [(0, .int .i64 (p0)), (5, .map (some b8)), (19, .slice A1 (l1).length cap1), (20, .int .i64 (((l1).length : Int))), (21, .int .i64 (x267))] a' ∧ SlR 1 encI w' fp1 A1 l1 ∧ Mp okI kI vB w' b8 l268 ∧ Chg [] w0 w' ∧ w0.heap.size ≤ w'.heap.size) hr273 (fun hst => ⟨0, ([] : List (Int × Bool)), rfl, Fr.of hst (by kernel_rfl), F1, F11, hB, hZ⟩) ?_
        rintro _ c276 a' w266 ⟨x267, l268, rfl, hF269, F270, F271, hB, hZ⟩ hx277
        refine Fr.goOn hF269 (by kernel_rfl) ?_
        have hm := hx277
        unfold m_impl_IsJoins_s1 at hm
        refine cW_seq ?_
        refine cW_region ?_
        refine wS_pure 1 [(22, .bool (decide (x267 < (((l1).length : Int)))))] (by kernel_rfl) ?_
        refine wS_end (by rfl) ?_
        refine eX_then ?_
        refine cW_seq ?_
        refine cW_cond (t := decide (x267 < (((l1).length : Int)))) (by kernel_rfl) (fun hb278 => ?_) (fun hb278 => ?_)
        · have hm := condT hb278 hm
          refine cW_skip ?_
          refine eX_then ?_
          refine cW_seq ?_
          refine cW_block ?_
          refine cW_seq ?_
          refine cW_region ?_
          refine wS_pure 1 [(23, .int .i64 (x267))] (by kernel_rfl) ?_
          obtain ⟨x279, hx280, hm⟩ := bindE hm
          refine wS_idx (d := 24) (T := 44) (A := A1) (n := (l1).length) (cap := cap1) (kd := .i64) (m := x267) (by kernel_rfl) sl44 (F270.is hx280) ?_
          obtain ⟨A281, cap282, hc284, F283⟩ := SlR.row F270 hx280
          refine wS_load1 (d := 25) (T := 68) (ad := (elA A1 1 (x267) 0)) (v := .slice A281 (x279).length cap282) (by kernel_rfl) vt68 hc284 ?_
          refine wS_pure 2 [(7, .slice A281 (x279).length cap282), (6, .int .i64 (x267))] (by kernel_rfl) ?_
          refine wS_end (by rfl) ?_
          refine eX_then ?_
          refine cW_seq ?_
          refine cW_seq ?_
          refine cW_drawnTail [] 39 (by kernel_rfl) (by kernel_rfl) (fun w312 hc313 => ?_)
          replace F270 := F270.chg hc313 Dj.nil
          replace F271 := F271.chg hc313 Dj.nil
          replace F283 := F283.chg hc313 Dj.nil
          replace hB := hB.inS hc313 inNil
          replace hZ := Nat.le_trans hZ hc313.size
          have hS := Chg.refl [] w312
          have Z314 := F270
          have Z315 := F271
          have Z316 := F283
          refine wH_take [0, 1, 2, 3] [3, 2, 1, 0] [(29, .bool ((((x279).length : Int)) != 2)), (28, .bool ((((x279).length : Int)) != 2)), (27, .int .i64 (((x279).length : Int))), (26, .slice A281 (x279).length cap282)] (by kernel_rfl) (qT (qT (qT (qB (qT (qL (qB (qT (qT qZ))))))))) (by kernel_rfl) ?_
          refine wH_bool ((((x279).length : Int)) != 2) (fun hb317 => ?_) (fun hb317 => ?_)
          · have hm := condT hb317 hm
            rewrite [hb317]
            refine wH_take [4, 5, 6, 7, 8, 9, 10, 11, 12, 13, 14, 15, 16, 17, 18, 19, 20, 21, 22, 23, 24, 25, 26, 27, 28, 29, 30, 31, 32, 33, 34, 35, 36, 37, 38] [38, 37, 36, 35, 34, 33, 32, 31, 30, 29, 28, 27, 26, 25, 24, 23, 22, 21, 20, 19, 18, 17, 16, 15, 14, 13, 12, 11, 10, 9, 8, 7, 6, 5, 4, 3, 2, 1, 0] [(64, undef), (63, undef), (62, undef), (61, undef), (60, .bool (true)), (59, .bool (true)), (58, undef), (57, undef), (56, undef), (55, undef), (54, undef), (53, .bool (true)), (52, .bool (true)), (51, undef), (50, undef), (49, undef), (48, undef), (47, undef), (46, undef), (45, undef), (44, .bool (true)), (43, .bool (true)), (42, undef), (41, undef), (40, undef), (39, undef), (38, undef), (37, undef), (36, undef), (35, .bool (true)), (34, .bool (true)), (33, undef), (32, undef), (31, undef), (30, undef)] (by kernel_rfl) (qT (qT (qT (qB (qT (qL (qB (qT (qT qZ))))))))) (by kernel_rfl) ?_
            refine wH_done (by kernel_rfl) ?_
            refine eX_tail ?_
            refine wS_pure 2 [(66, .bool (true)), (65, undef)] (by kernel_rfl) ?_
            refine wS_end (by rfl) ?_
            refine eX_then ?_
            refine cW_prune [(0, .int .i64 (p0)), (5, .map (some b8)), (7, .slice A281 (x279).length cap282), (19, .slice A1 (l1).length cap1), (20, .int .i64 (((l1).length : Int))), (21, .int .i64 (x267)), (66, .bool (true))] (by kernel_rfl) (by kernel_rfl) (fun a318 => ?_)
            refine cW_cond_t (by kernel_rfl) ?_
            refine cW_seq ?_
            refine cW_region ?_
            refine wS_pure 1 [(4, .bool (false))] (by kernel_rfl) ?_
            refine wS_end (by rfl) ?_
            refine eX_then ?_
            refine cW_ret ?_
            refine eX_then_ret ?_
            refine eX_block_ret ?_
            refine eX_then_ret ?_
            have hq : (some (Ctl.out (Sum.inr false)) : Option (Ctl (Int × (List (Int × Bool))) (Sum (Unit) ((Bool))))) = some _ := hm
            replace hq := someE hq
            subst hq
            refine eX_outR hx277 (fun hr => ?_)
            subst hr
            refine eX_block_ret ?_
            refine eX_then_ret ?_
            refine eX_then_ret ?_
            have hq : (some false : Option ((Bool))) = some _ := hm274
            replace hq := someE hq
            subst hq
            refine eX_ret (vs := [.bool (false)]) [.tmp 4] (by rfl) ⟨by (show lkE _ _ _ = _); kernel_rfl, trivial⟩ ?_
            exact ⟨rfl, hB⟩
          · have hm := condF hb317 hm
            rewrite [hb317]
            refine wH_take [4] [4, 3, 2, 1, 0] [(30, .slice A281 (x279).length cap282)] (by kernel_rfl) (qT (qT (qT (qB (qT (qL (qB (qT (qT qZ))))))))) (by kernel_rfl) ?_
            obtain ⟨x319, hx320, hm⟩ := bindE hm
            refine wH_idx (i := 5) (d := 31) (T := 68) (A := A281) (n := (x279).length) (cap := cap282) (kd := .i64) (m := 0) (by kernel_rfl) (qT (qT (qT (qB (qT (qL (qB (qT (qT qZ))))))))) (by kernel_rfl) (by kernel_rfl) sl68 (F283.is hx320) ?_
            refine wH_load1 (i := 6) (d := 32) (T := 2) (ad := (elA A281 1 (0) 0)) (v := .int .i64 (x319)) (by kernel_rfl) (qT (qT (qT (qB (qT (qL (qB (qT (qT qZ))))))))) (by kernel_rfl) (by kernel_rfl) vt2 (fun W hW => Sl.cell (Z316.chg hW Dj.nil) hx320 0 (by rfl)) ?_
            refine wH_take [7, 8, 9] [9, 8, 7, 6, 5, 4, 3, 2, 1, 0] [(35, .bool (decide (x319 < 0))), (34, .bool (decide (x319 < 0))), (33, .bool (decide (x319 < 0)))] (by kernel_rfl) (qT (qT (qT (qB (qT (qL (qB (qT (qT qZ))))))))) (by kernel_rfl) ?_
            refine wH_bool (decide (x319 < 0)) (fun hb321 => ?_) (fun hb321 => ?_)
            · have hm := condT hb321 hm
              rewrite [hb321]
              refine wH_take [10, 11, 12, 13, 14, 15, 16, 17, 18, 19, 20, 21, 22, 23, 24, 25, 26, 27, 28, 29, 30, 31, 32, 33, 34, 35, 36, 37, 38] [38, 37, 36, 35, 34, 33, 32, 31, 30, 29, 28, 27, 26, 25, 24, 23, 22, 21, 20, 19, 18, 17, 16, 15, 14, 13, 12, 11, 10, 9, 8, 7, 6, 5, 4, 3, 2, 1, 0] [(64, undef), (63, undef), (62, undef), (61, undef), (60, .bool (true)), (59, .bool (true)), (58, undef), (57, undef), (56, undef), (55, undef), (54, undef), (53, .bool (true)), (52, .bool (true)), (51, undef), (50, undef), (49, undef), (48, undef), (47, undef), (46, undef), (45, undef), (44, .bool (true)), (43, .bool (true)), (42, undef), (41, undef), (40, undef), (39, undef), (38, undef), (37, undef), (36, undef)] (by kernel_rfl) (qT (qT (qT (qB (qT (qL (qB (qT (qT qZ))))))))) (by kernel_rfl) ?_
              refine wH_done (by kernel_rfl) ?_
              refine eX_tail ?_
              refine wS_pure 2 [(66, .bool (true)), (65, undef)] (by kernel_rfl) ?_
              refine wS_end (by rfl) ?_
              refine eX_then ?_
              refine cW_prune [(0, .int .i64 (p0)), (5, .map (some b8)), (7, .slice A281 (x279).length cap282), (19, .slice A1 (l1).length cap1), (20, .int .i64 (((l1).length : Int))), (21, .int .i64 (x267)), (66, .bool (true))] (by kernel_rfl) (by kernel_rfl) (fun a322 => ?_)
              refine cW_cond_t (by kernel_rfl) ?_
              refine cW_seq ?_
              refine cW_region ?_
              refine wS_pure 1 [(4, .bool (false))] (by kernel_rfl) ?_
              refine wS_end (by rfl) ?_
              refine eX_then ?_
              refine cW_ret ?_
              refine eX_then_ret ?_
              refine eX_block_ret ?_
              refine eX_then_ret ?_
              have hq : (some (Ctl.out (Sum.inr false)) : Option (Ctl (Int × (List (Int × Bool))) (Sum (Unit) ((Bool))))) = some _ := hm
              replace hq := someE hq
              subst hq
              refine eX_outR hx277 (fun hr => ?_)
              subst hr
              refine eX_block_ret ?_
              refine eX_then_ret ?_
              refine eX_then_ret ?_
              have hq : (some false : Option ((Bool))) = some _ := hm274
              replace hq := someE hq
              subst hq
              refine eX_ret (vs := [.bool (false)]) [.tmp 4] (by rfl) ⟨by (show lkE _ _ _ = _); kernel_rfl, trivial⟩ ?_
              exact ⟨rfl, hB⟩
            · have hm := condF hb321 hm
              rewrite [hb321]
              refine wH_take [10] [10, 9, 8, 7, 6, 5, 4, 3, 2, 1, 0] [(36, .slice A281 (x279).length cap282)] (by kernel_rfl) (qT (qT (qT (qB (qT (qL (qB (qT (qT qZ))))))))) (by kernel_rfl) ?_
              obtain ⟨x323, hx324, hm⟩ := bindE hm
              refine wH_idx (i := 11) (d := 37) (T := 68) (A := A281) (n := (x279).length) (cap := cap282) (kd := .i64) (m := 0) (by kernel_rfl) (qT (qT (qT (qB (qT (qL (qB (qT (qT qZ))))))))) (by kernel_rfl) (by kernel_rfl) sl68 (F283.is hx324) ?_
              refine wH_load1 (i := 12) (d := 38) (T := 2) (ad := (elA A281 1 (0) 0)) (v := .int .i64 (x323)) (by kernel_rfl) (qT (qT (qT (qB (qT (qL (qB (qT (qT qZ))))))))) (by kernel_rfl) (by kernel_rfl) vt2 (fun W hW => Sl.cell (Z316.chg hW Dj.nil) hx324 0 (by rfl)) ?_
              refine wH_take [13] [13, 12, 11, 10, 9, 8, 7, 6, 5, 4, 3, 2, 1, 0] [(39, .slice A281 (x279).length cap282)] (by kernel_rfl) (qT (qT (qT (qB (qT (qL (qB (qT (qT qZ))))))))) (by kernel_rfl) ?_
              obtain ⟨x325, hx326, hm⟩ := bindE hm
              refine wH_idx (i := 14) (d := 40) (T := 68) (A := A281) (n := (x279).length) (cap := cap282) (kd := .i64) (m := 1) (by kernel_rfl) (qT (qT (qT (qB (qT (qL (qB (qT (qT qZ))))))))) (by kernel_rfl) (by kernel_rfl) sl68 (F283.is hx326) ?_
              refine wH_load1 (i := 15) (d := 41) (T := 2) (ad := (elA A281 1 (1) 0)) (v := .int .i64 (x325)) (by kernel_rfl) (qT (qT (qT (qB (qT (qL (qB (qT (qT qZ))))))))) (by kernel_rfl) (by kernel_rfl) vt2 (fun W hW => Sl.cell (Z316.chg hW Dj.nil) hx326 0 (by rfl)) ?_
              refine wH_take [16, 17, 18] [18, 17, 16, 15, 14, 13, 12, 11, 10, 9, 8, 7, 6, 5, 4, 3, 2, 1, 0] [(44, .bool (decide (x323 ≥ x325))), (43, .bool (decide (x323 ≥ x325))), (42, .bool (decide (x323 ≥ x325)))] (by kernel_rfl) (qT (qT (qT (qB (qT (qL (qB (qT (qT qZ))))))))) (by kernel_rfl) ?_
              refine wH_bool (decide (x323 ≥ x325)) (fun hb327 => ?_) (fun hb327 => ?_)
              · have hm := condT hb327 hm
                rewrite [hb327]
                refine wH_take [19, 20, 21, 22, 23, 24, 25, 26, 27, 28, 29, 30, 31, 32, 33, 34, 35, 36, 37, 38] [38, 37, 36, 35, 34, 33, 32, 31, 30, 29, 28, 27, 26, 25, 24, 23, 22, 21, 20, 19, 18, 17, 16, 15, 14, 13, 12, 11, 10, 9, 8, 7, 6, 5, 4, 3, 2, 1, 0] [(64, undef), (63, undef), (62, undef), (61, undef), (60, .bool (true)), (59, .bool (true)), (58, undef), (57, undef), (56, undef), (55, undef), (54, undef), (53, .bool (true)), (52, .bool (true)), (51, undef), (50, undef), (49, undef), (48, undef), (47, undef), (46, undef), (45, undef)] (by kernel_rfl) (qT (qT (qT (qB (qT (qL (qB (qT (qT qZ))))))))) (by kernel_rfl) ?_
                refine wH_done (by kernel_rfl) ?_
                refine eX_tail ?_
                refine wS_pure 2 [(66, .bool (true)), (65, undef)] (by kernel_rfl) ?_
                refine wS_end (by rfl) ?_
                refine eX_then ?_
                refine cW_prune [(0, .int .i64 (p0)), (5, .map (some b8)), (7, .slice A281 (x279).length cap282), (19, .slice A1 (l1).length cap1), (20, .int .i64 (((l1).length : Int))), (21, .int .i64 (x267)), (66, .bool (true))] (by kernel_rfl) (by kernel_rfl) (fun a328 => ?_)
                refine cW_cond_t (by kernel_rfl) ?_
                refine cW_seq ?_
                refine cW_region ?_
                refine wS_pure 1 [(4, .bool (false))] (by kernel_rfl) ?_
                refine wS_end (by rfl) ?_
                refine eX_then ?_
                refine cW_ret ?_
                refine eX_then_ret ?_
                refine eX_block_ret ?_
                refine eX_then_ret ?_
                have hq : (some (Ctl.out (Sum.inr false)) : Option (Ctl (Int × (List (Int × Bool))) (Sum (Unit) ((Bool))))) = some _ := hm
                replace hq := someE hq
                subst hq
                refine eX_outR hx277 (fun hr => ?_)
                subst hr
                refine eX_block_ret ?_
                refine eX_then_ret ?_
                refine eX_then_ret ?_
                have hq : (some false : Option ((Bool))) = some _ := hm274
                replace hq := someE hq
                subst hq
                refine eX_ret (vs := [.bool (false)]) [.tmp 4] (by rfl) ⟨by (show lkE _ _ _ = _); kernel_rfl, trivial⟩ ?_
                exact ⟨rfl, hB⟩
              · have hm := condF hb327 hm
                rewrite [hb327]
                refine wH_take [19] [19, 18, 17, 16, 15, 14, 13, 12, 11, 10, 9, 8, 7, 6, 5, 4, 3, 2, 1, 0] [(45, .slice A281 (x279).length cap282)] (by kernel_rfl) (qT (qT (qT (qB (qT (qL (qB (qT (qT qZ))))))))) (by kernel_rfl) ?_
                obtain ⟨x329, hx330, hm⟩ := bindE hm
                refine wH_idx (i := 20) (d := 46) (T := 68) (A := A281) (n := (x279).length) (cap := cap282) (kd := .i64) (m := 1) (by kernel_rfl) (qT (qT (qT (qB (qT (qL (qB (qT (qT qZ))))))))) (by kernel_rfl) (by kernel_rfl) sl68 (F283.is hx330) ?_
                refine wH_load1 (i := 21) (d := 47) (T := 2) (ad := (elA A281 1 (1) 0)) (v := .int .i64 (x329)) (by kernel_rfl) (qT (qT (qT (qB (qT (qL (qB (qT (qT qZ))))))))) (by kernel_rfl) (by kernel_rfl) vt2 (fun W hW => Sl.cell (Z316.chg hW Dj.nil) hx330 0 (by rfl)) ?_
                refine wH_take [22, 23, 24, 25, 26, 27] [27, 26, 25, 24, 23, 22, 21, 20, 19, 18, 17, 16, 15, 14, 13, 12, 11, 10, 9, 8, 7, 6, 5, 4, 3, 2, 1, 0] [(53, .bool (decide (x329 ≥ (wr (p0 + x267))))), (52, .bool (decide (x329 ≥ (wr (p0 + x267))))), (51, .bool (decide (x329 ≥ (wr (p0 + x267))))), (50, .int .i64 (wr (p0 + x267))), (49, .int .i64 (x267)), (48, .int .i64 (p0))] (by kernel_rfl) (qT (qT (qT (qB (qT (qL (qB (qT (qT qZ))))))))) (by kernel_rfl) ?_
                refine wH_bool (decide (x329 ≥ (wr (p0 + x267)))) (fun hb331 => ?_) (fun hb331 => ?_)
                · have hm := condT hb331 hm
                  rewrite [hb331]
                  refine wH_take [28, 29, 30, 31, 32, 33, 34, 35, 36, 37, 38] [38, 37, 36, 35, 34, 33, 32, 31, 30, 29, 28, 27, 26, 25, 24, 23, 22, 21, 20, 19, 18, 17, 16, 15, 14, 13, 12, 11, 10, 9, 8, 7, 6, 5, 4, 3, 2, 1, 0] [(64, undef), (63, undef), (62, undef), (61, undef), (60, .bool (true)), (59, .bool (true)), (58, undef), (57, undef), (56, undef), (55, undef), (54, undef)] (by kernel_rfl) (qT (qT (qT (qB (qT (qL (qB (qT (qT qZ))))))))) (by kernel_rfl) ?_
                  refine wH_done (by kernel_rfl) ?_
                  refine eX_tail ?_
                  refine wS_pure 2 [(66, .bool (true)), (65, undef)] (by kernel_rfl) ?_
                  refine wS_end (by rfl) ?_
                  refine eX_then ?_
                  refine cW_prune [(0, .int .i64 (p0)), (5, .map (some b8)), (7, .slice A281 (x279).length cap282), (19, .slice A1 (l1).length cap1), (20, .int .i64 (((l1).length : Int))), (21, .int .i64 (x267)), (66, .bool (true))] (by kernel_rfl) (by kernel_rfl) (fun a332 => ?_)
                  refine cW_cond_t (by kernel_rfl) ?_
                  refine cW_seq ?_
                  refine cW_region ?_
                  refine wS_pure 1 [(4, .bool (false))] (by kernel_rfl) ?_
                  refine wS_end (by rfl) ?_
                  refine eX_then ?_
                  refine cW_ret ?_
                  refine eX_then_ret ?_
                  refine eX_block_ret ?_
                  refine eX_then_ret ?_
                  have hq : (some (Ctl.out (Sum.inr false)) : Option (Ctl (Int × (List (Int × Bool))) (Sum (Unit) ((Bool))))) = some _ := hm
                  replace hq := someE hq
                  subst hq
                  refine eX_outR hx277 (fun hr => ?_)
                  subst hr
                  refine eX_block_ret ?_
                  refine eX_then_ret ?_
                  refine eX_then_ret ?_
                  have hq : (some false : Option ((Bool))) = some _ := hm274
                  replace hq := someE hq
                  subst hq
                  refine eX_ret (vs := [.bool (false)]) [.tmp 4] (by rfl) ⟨by (show lkE _ _ _ = _); kernel_rfl, trivial⟩ ?_
                  exact ⟨rfl, hB⟩
                · have hm := condF hb331 hm
                  rewrite [hb331]
                  refine wH_take [28, 29] [29, 28, 27, 26, 25, 24, 23, 22, 21, 20, 19, 18, 17, 16, 15, 14, 13, 12, 11, 10, 9, 8, 7, 6, 5, 4, 3, 2, 1, 0] [(55, .slice A281 (x279).length cap282), (54, .map (some b8))] (by kernel_rfl) (qT (qT (qT (qB (qT (qL (qB (qT (qT qZ))))))))) (by kernel_rfl) ?_
                  obtain ⟨x333, hx334, hm⟩ := bindE hm
                  refine wH_idx (i := 30) (d := 56) (T := 68) (A := A281) (n := (x279).length) (cap := cap282) (kd := .i64) (m := 0) (by kernel_rfl) (qT (qT (qT (qB (qT (qL (qB (qT (qT qZ))))))))) (by kernel_rfl) (by kernel_rfl) sl68 (F283.is hx334) ?_
                  refine wH_load1 (i := 31) (d := 57) (T := 2) (ad := (elA A281 1 (0) 0)) (v := .int .i64 (x333)) (by kernel_rfl) (qT (qT (qT (qB (qT (qL (qB (qT (qT qZ))))))))) (by kernel_rfl) (by kernel_rfl) vt2 (fun W hW => Sl.cell (Z316.chg hW Dj.nil) hx334 0 (by rfl)) ?_
                  obtain ⟨y335, hy336, hm⟩ := bindE hm
                  refine wH_look (i := 32) (d := 58) (T := 103) (by kernel_rfl) (qT (qT (qT (qB (qT (qL (qB (qT (qT qZ))))))))) (by kernel_rfl) (by kernel_rfl) mk103 mp103 (fun W hW => Z315.chg hW Dj.nil) hy336 ?_
                  refine wH_take [33, 34] [34, 33, 32, 31, 30, 29, 28, 27, 26, 25, 24, 23, 22, 21, 20, 19, 18, 17, 16, 15, 14, 13, 12, 11, 10, 9, 8, 7, 6, 5, 4, 3, 2, 1, 0] [(60, .bool (y335)), (59, .bool (y335))] (by kernel_rfl) (qT (qT (qT (qB (qT (qL (qB (qT (qT qZ))))))))) (by kernel_rfl) ?_
                  refine wH_bool y335 (fun hb337 => ?_) (fun hb337 => ?_)
                  · have hm := condT hb337 hm
                    rewrite [hb337]
                    refine wH_take [35, 36, 37, 38] [38, 37, 36, 35, 34, 33, 32, 31, 30, 29, 28, 27, 26, 25, 24, 23, 22, 21, 20, 19, 18, 17, 16, 15, 14, 13, 12, 11, 10, 9, 8, 7, 6, 5, 4, 3, 2, 1, 0] [(64, undef), (63, undef), (62, undef), (61, undef)] (by kernel_rfl) (qT (qT (qT (qB (qT (qL (qB (qT (qT qZ))))))))) (by kernel_rfl) ?_
                    refine wH_done (by kernel_rfl) ?_
                    refine eX_tail ?_
                    refine wS_pure 2 [(66, .bool (true)), (65, undef)] (by kernel_rfl) ?_
                    refine wS_end (by rfl) ?_
                    refine eX_then ?_
                    refine cW_prune [(0, .int .i64 (p0)), (5, .map (some b8)), (7, .slice A281 (x279).length cap282), (19, .slice A1 (l1).length cap1), (20, .int .i64 (((l1).length : Int))), (21, .int .i64 (x267)), (66, .bool (true))] (by kernel_rfl) (by kernel_rfl) (fun a338 => ?_)
                    refine cW_cond_t (by kernel_rfl) ?_
                    refine cW_seq ?_
                    refine cW_region ?_
                    refine wS_pure 1 [(4, .bool (false))] (by kernel_rfl) ?_
                    refine wS_end (by rfl) ?_
                    refine eX_then ?_
                    refine cW_ret ?_
                    refine eX_then_ret ?_
                    refine eX_block_ret ?_
                    refine eX_then_ret ?_
                    have hq : (some (Ctl.out (Sum.inr false)) : Option (Ctl (Int × (List (Int × Bool))) (Sum (Unit) ((Bool))))) = some _ := hm
                    replace hq := someE hq
                    subst hq
                    refine eX_outR hx277 (fun hr => ?_)
                    subst hr
                    refine eX_block_ret ?_
                    refine eX_then_ret ?_
                    refine eX_then_ret ?_
                    have hq : (some false : Option ((Bool))) = some _ := hm274
                    replace hq := someE hq
                    subst hq
                    refine eX_ret (vs := [.bool (false)]) [.tmp 4] (by rfl) ⟨by (show lkE _ _ _ = _); kernel_rfl, trivial⟩ ?_
                    exact ⟨rfl, hB⟩
                  · have hm := condF hb337 hm
                    rewrite [hb337]
                    refine wH_take [35, 36] [36, 35, 34, 33, 32, 31, 30, 29, 28, 27, 26, 25, 24, 23, 22, 21, 20, 19, 18, 17, 16, 15, 14, 13, 12, 11, 10, 9, 8, 7, 6, 5, 4, 3, 2, 1, 0] [(62, .slice A281 (x279).length cap282), (61, .map (some b8))] (by kernel_rfl) (qT (qT (qT (qB (qT (qL (qB (qT (qT qZ))))))))) (by kernel_rfl) ?_
                    obtain ⟨x339, hx340, hm⟩ := bindE hm
                    refine wH_idx (i := 37) (d := 63) (T := 68) (A := A281) (n := (x279).length) (cap := cap282) (kd := .i64) (m := 1) (by kernel_rfl) (qT (qT (qT (qB (qT (qL (qB (qT (qT qZ))))))))) (by kernel_rfl) (by kernel_rfl) sl68 (F283.is hx340) ?_
                    refine wH_load1 (i := 38) (d := 64) (T := 2) (ad := (elA A281 1 (1) 0)) (v := .int .i64 (x339)) (by kernel_rfl) (qT (qT (qT (qB (qT (qL (qB (qT (qT qZ))))))))) (by kernel_rfl) (by kernel_rfl) vt2 (fun W hW => Sl.cell (Z316.chg hW Dj.nil) hx340 0 (by rfl)) ?_
                    refine wH_done (by kernel_rfl) ?_
                    refine eX_tail ?_
                    obtain ⟨y341, hy342, hm⟩ := bindE hm
                    refine wS_look (d := 65) (T := 103) (by kernel_rfl) mk103 mp103 F271 hy342 ?_
                    refine wS_pure 1 [(66, .bool (y341))] (by kernel_rfl) ?_
                    refine wS_end (by rfl) ?_
                    refine eX_then ?_
                    refine cW_prune [(0, .int .i64 (p0)), (5, .map (some b8)), (7, .slice A281 (x279).length cap282), (19, .slice A1 (l1).length cap1), (20, .int .i64 (((l1).length : Int))), (21, .int .i64 (x267)), (66, .bool (y341))] (by kernel_rfl) (by kernel_rfl) (fun a343 => ?_)
                    refine cW_cond (t := y341) (by kernel_rfl) (fun hb344 => ?_) (fun hb344 => ?_)
                    · have hm := condT hb344 hm
                      refine cW_seq ?_
                      refine cW_region ?_
                      refine wS_pure 1 [(4, .bool (false))] (by kernel_rfl) ?_
                      refine wS_end (by rfl) ?_
                      refine eX_then ?_
                      refine cW_ret ?_
                      refine eX_then_ret ?_
                      refine eX_block_ret ?_
                      refine eX_then_ret ?_
                      have hq : (some (Ctl.out (Sum.inr false)) : Option (Ctl (Int × (List (Int × Bool))) (Sum (Unit) ((Bool))))) = some _ := hm
                      replace hq := someE hq
                      subst hq
                      refine eX_outR hx277 (fun hr => ?_)
                      subst hr
                      refine eX_block_ret ?_
                      refine eX_then_ret ?_
                      refine eX_then_ret ?_
                      have hq : (some false : Option ((Bool))) = some _ := hm274
                      replace hq := someE hq
                      subst hq
                      refine eX_ret (vs := [.bool (false)]) [.tmp 4] (by rfl) ⟨by (show lkE _ _ _ = _); kernel_rfl, trivial⟩ ?_
                      exact ⟨rfl, hB⟩
                    · have hm := condF hb344 hm
                      refine cW_skip ?_
                      refine eX_then ?_
                      refine cW_drawnTail [b8] 11 (by kernel_rfl) (by kernel_rfl) (fun w372 hc373 => ?_)
                      replace F270 := F270.chg hc373 Dj.nil
                      replace F271 := F271.chg hc373 Dj.nil
                      replace F283 := F283.chg hc373 Dj.nil
                      replace hB := hB.inS hc373 inNil
                      replace hZ := Nat.le_trans hZ hc373.size
                      have hS := Chg.refl [b8] w372
                      have Z374 := F270
                      have Z375 := F271
                      have Z376 := F283
                      refine wH_take [0, 1] [1, 0] [(68, .slice A281 (x279).length cap282), (67, .map (some b8))] (by kernel_rfl) (qT (qB (qT (qL (qB (qT (qT qZ))))))) (by kernel_rfl) ?_
                      obtain ⟨x377, hx378, hm⟩ := bindE hm
                      refine wH_idx (i := 2) (d := 69) (T := 68) (A := A281) (n := (x279).length) (cap := cap282) (kd := .i64) (m := 0) (by kernel_rfl) (qT (qB (qT (qL (qB (qT (qT qZ))))))) (by kernel_rfl) (by kernel_rfl) sl68 (F283.is hx378) ?_
                      refine wH_load1 (i := 3) (d := 70) (T := 2) (ad := (elA A281 1 (0) 0)) (v := .int .i64 (x377)) (by kernel_rfl) (qT (qB (qT (qL (qB (qT (qT qZ))))))) (by kernel_rfl) (by kernel_rfl) vt2 (fun W hW => Sl.cell (Z376.chg hW (Dj.of L1 G10)) hx378 0 (by rfl)) ?_
                      refine wH_take [4, 5] [5, 4, 3, 2, 1, 0] [(72, .slice A281 (x279).length cap282), (71, .map (some b8))] (by kernel_rfl) (qT (qB (qT (qL (qB (qT (qT qZ))))))) (by kernel_rfl) ?_
                      obtain ⟨x379, hx380, hm⟩ := bindE hm
                      refine wH_idx (i := 6) (d := 73) (T := 68) (A := A281) (n := (x279).length) (cap := cap282) (kd := .i64) (m := 1) (by kernel_rfl) (qT (qB (qT (qL (qB (qT (qT qZ))))))) (by kernel_rfl) (by kernel_rfl) sl68 (F283.is hx380) ?_
                      refine wH_load1 (i := 7) (d := 74) (T := 2) (ad := (elA A281 1 (1) 0)) (v := .int .i64 (x379)) (by kernel_rfl) (qT (qB (qT (qL (qB (qT (qT qZ))))))) (by kernel_rfl) (by kernel_rfl) vt2 (fun W hW => Sl.cell (Z376.chg hW (Dj.of L1 G10)) hx380 0 (by rfl)) ?_
                      refine wH_all [8] (by rfl) (by kernel_rfl) (by simp) ⟨⟨by kernel_rfl, ?_⟩, trivial⟩
                      obtain ⟨_, hk381, hm⟩ := bindE hm
                      refine wS_entry (k := x377) (d := 75) (T := 103) (by kernel_rfl) mk103 mp103 F271 (mpE hk381) ?_
                      intro v382 s383 w384 F385 hc386
                      replace F270 := F270.chg hc386 (Dj.of L1 G10)
                      replace F283 := F283.chg hc386 (Dj.of L1 G10)
                      replace hB := hB.inS hc386 (inLow G10)
                      have hSz := hS
                      replace hS := hS.trans hc386
                      replace hZ := Nat.le_trans hZ hc386.size
                      clear F271
                      refine wS_end (by kernel_rfl) ?_
                      refine eX_KH hS ?_
                      refine wH_take [9] [9, 8, 7, 6, 5, 4, 3, 2, 1, 0] [(76, .int .i64 (s383 : Nat))] (by kernel_rfl) (qT (qB (qT (qL (qB (qT (qT qZ))))))) (by kernel_rfl) ?_
                      refine wH_all [10] (by rfl) (by kernel_rfl) (by simp) ⟨⟨by kernel_rfl, ?_⟩, trivial⟩
                      refine wS_eStore (x := true) (T := 103) (by kernel_rfl) (by rfl) mk103 F385 ?_
                      intro w387 F388 hc389
                      replace F270 := F270.chg hc389 (Dj.of L1 G10)
                      replace F283 := F283.chg hc389 (Dj.of L1 G10)
                      replace hB := hB.inS hc389 (inLow G10)
                      have hSz := hS
                      replace hS := hS.trans hc389
                      replace hZ := Nat.le_trans hZ hc389.size
                      clear F385
                      refine wS_end (by kernel_rfl) ?_
                      refine eX_KH hS ?_
                      refine wH_done (by kernel_rfl) ?_
                      refine eX_tail ?_
                      obtain ⟨_, hk390, hm⟩ := bindE hm
                      refine wS_entry (k := x379) (d := 77) (T := 103) (by kernel_rfl) mk103 mp103 F388 (mpE hk390) ?_
                      intro v391 s392 w393 F394 hc395
                      replace F270 := F270.chg hc395 (Dj.of L1 G10)
                      replace F283 := F283.chg hc395 (Dj.of L1 G10)
                      replace hB := hB.inS hc395 (inLow G10)
                      replace hZ := Nat.le_trans hZ hc395.size
                      clear F388
                      refine wS_pure 1 [(78, .int .i64 (s392 : Nat))] (by kernel_rfl) ?_
                      refine wS_eStore (x := true) (T := 103) (by kernel_rfl) (by rfl) mk103 F394 ?_
                      intro w396 F397 hc398
                      replace F270 := F270.chg hc398 (Dj.of L1 G10)
                      replace F283 := F283.chg hc398 (Dj.of L1 G10)
                      replace hB := hB.inS hc398 (inLow G10)
                      replace hZ := Nat.le_trans hZ hc398.size
                      clear F394
                      refine wS_end (by rfl) ?_
                      refine eX_block ?_
                      refine eX_then ?_
                      refine cW_region ?_
                      refine wS_pure 2 [(21, .int .i64 (wr (x267 + 1))), (79, .int .i64 (wr (x267 + 1)))] (by kernel_rfl) ?_
                      refine wS_end (by rfl) ?_
                      have hq : (some (Ctl.next ((wr (x267 + 1), mset (ment false (mset (ment false l268 x377) x377 true) x379) x379 true))) : Option (Ctl (Int × (List (Int × Bool))) (Sum (Unit) ((Bool))))) = some _ := hm
                      replace hq := someE hq
                      subst hq
                      exact eX_next hx277 (fun hst => ⟨wr (x267 + 1), mset (ment false (mset (ment false l268 x377) x377 true) x379) x379 true, rfl, Fr.of hst (by kernel_rfl), F270, F397, hB, hZ⟩)
        · have hm := condF hb278 hm
          refine cW_exit ?_
          refine eX_then_exit ?_
          have hq : (some (Ctl.out (Sum.inl (()))) : Option (Ctl (Int × (List (Int × Bool))) (Sum (Unit) ((Bool))))) = some _ := hm
          replace hq := someE hq
          subst hq
          refine eX_outX hx277 (fun hr399 => ?_)
          replace hr399 := hr399.symm
          subst hr399
          refine eX_block_hit ?_
          exact eX_J (fun hst => ⟨rfl, Fr.of hst (by kernel_rfl), hB, hZ⟩)
      · rintro a' w264 ⟨hJ, hF265, hB, hZ⟩
        subst hJ
        refine Fr.goX hF265 (by kernel_rfl) ?_
        refine eX_then ?_
        refine cW_seq ?_
        refine cW_region ?_
        refine wS_pure 1 [(4, .bool (true))] (by kernel_rfl) ?_
        refine wS_end (by rfl) ?_
        refine eX_then ?_
        refine cW_ret ?_
        have hq : (some true : Option ((Bool))) = some _ := hm
        replace hq := someE hq
        subst hq
        refine eX_ret (vs := [.bool (true)]) [.tmp 4] (by rfl) ⟨by (show lkE _ _ _ = _); kernel_rfl, trivial⟩ ?_
        exact ⟨rfl, hB⟩

def m_laws_szInt64S (l0 : List (Int)) (p1 : Int) : Option ((Int)) :=
  (bif decide ((wr (p1 - (((l0).length : Int)))) < 0) then some ((-1)) else some (wr (p1 - (((l0).length : Int)))))
set_option maxRecDepth 100000 in
/-- laws.szInt64S -/
theorem c_laws_szInt64S {w0 : World} {l0 : List (Int)} {A0 : Option Addr} {cap0 : Nat} {fp0 : List Nat} {p1 : Int} {r : (Int)} (hm : m_laws_szInt64S l0 p1 = some r) (F0 : Sl 1 encI w0 fp0 A0 l0) :
    Calls Try.prog 93 #[.slice A0 (l0).length cap0, .int .i64 (p1)] w0 fun e w' => e = .returned (.int .i64 (r)) ∧ Chg [] w0 w' := by
  have L0 := F0.low
  have hB : Chg [] w0 w0 := Chg.refl _ _
  have hZ := Nat.le_refl w0.heap.size
  unfold m_laws_szInt64S at hm
  refine enterE (N := 12) Try.func93 (by rfl) Try.ntmps93 (by simp) [(0, .slice A0 (l0).length cap0), (1, .int .i64 (p1))] (by rfl) (by kernel_rfl) (fun a => ?_)
  refine cW_seq ?_
  refine cW_region ?_
  refine wS_pure 1 [(4, .int .i64 (0))] (by kernel_rfl) ?_
  refine wS_end (by rfl) ?_
  refine eX_then ?_
  refine cW_seq ?_
  refine cW_region ?_
  refine wS_pure 5 [(1, .int .i64 (wr (p1 - (((l0).length : Int))))), (8, .int .i64 (wr (p1 - (((l0).length : Int))))), (7, .int .i64 (((l0).length : Int))), (6, .slice A0 (l0).length cap0), (5, .int .i64 (p1))] (by kernel_rfl) ?_
  refine wS_end (by rfl) ?_
  refine eX_then ?_
  refine cW_seq ?_
  refine cW_seq ?_
  refine cW_region ?_
  refine wS_pure 2 [(10, .bool (decide ((wr (p1 - (((l0).length : Int)))) < 0))), (9, .int .i64 (wr (p1 - (((l0).length : Int)))))] (by kernel_rfl) ?_
  refine wS_end (by rfl) ?_
  refine eX_then ?_
  refine cW_cond (t := decide ((wr (p1 - (((l0).length : Int)))) < 0)) (by kernel_rfl) (fun hb2 => ?_) (fun hb2 => ?_)
  · have hm := condT hb2 hm
    refine cW_seq ?_
    refine cW_region ?_
    refine wS_pure 1 [(4, .int .i64 ((-1)))] (by kernel_rfl) ?_
    refine wS_end (by rfl) ?_
    refine eX_then ?_
    refine cW_ret ?_
    refine eX_then_ret ?_
    have hq : (some ((-1)) : Option ((Int))) = some _ := hm
    replace hq := someE hq
    subst hq
    refine eX_ret (vs := [.int .i64 ((-1))]) [.tmp 4] (by rfl) ⟨by (show lkE _ _ _ = _); kernel_rfl, trivial⟩ ?_
    exact ⟨rfl, hB⟩
  · have hm := condF hb2 hm
    refine cW_skip ?_
    refine eX_then ?_
    refine cW_seq ?_
    refine cW_region ?_
    refine wS_pure 2 [(4, .int .i64 (wr (p1 - (((l0).length : Int))))), (11, .int .i64 (wr (p1 - (((l0).length : Int)))))] (by kernel_rfl) ?_
    refine wS_end (by rfl) ?_
    refine eX_then ?_
    refine cW_ret ?_
    have hq : (some (wr (p1 - (((l0).length : Int)))) : Option ((Int))) = some _ := hm
    replace hq := someE hq
    subst hq
    refine eX_ret (vs := [.int .i64 (wr (p1 - (((l0).length : Int))))]) [.tmp 4] (by rfl) ⟨by (show lkE _ _ _ = _); kernel_rfl, trivial⟩ ?_
    exact ⟨rfl, hB⟩

noncomputable def m_laws_szInt64SS_s1 (l0 : List (List (Int))) (s46 : Int × Int) : Option (Ctl (Int × Int) (Sum (Int) ((Int)))) :=
  match s46 with | (x39, x40) => (bif decide (x40 < (((l0).length : Int))) then Option.bind (geti l0 x40) fun x50 => Option.bind (m_laws_szInt64S x50 x39) fun y57 => (bif decide (y57 < 0) then some (Ctl.out (Sum.inr ((-1)))) else some (Ctl.next ((y57, wr (x40 + 1))))) else some (Ctl.out (Sum.inl x39)))
noncomputable def m_laws_szInt64SS (l0 : List (List (Int))) (p1 : Int) : Option ((Int)) :=
  (bif decide ((wr (p1 - (((l0).length : Int)))) < 0) then some ((-1)) else Option.bind (loopM (m_laws_szInt64SS_s1 l0) ((wr (p1 - (((l0).length : Int))), 0))) fun (r43 : Sum (Int) ((Int))) => match r43 with | Sum.inl q64 => ((fun (x36 : Int) => some x36) q64) | Sum.inr v63 => some v63)
set_option maxRecDepth 100000 in
/-- laws.szInt64SS -/
theorem c_laws_szInt64SS {w0 : World} {l0 : List (List (Int))} {A0 : Option Addr} {cap0 : Nat} {fp0 : List Nat} {p1 : Int} {r : (Int)} (hm : m_laws_szInt64SS l0 p1 = some r) (F0 : SlR 1 encI w0 fp0 A0 l0) :
    Calls Try.prog 36 #[.slice A0 (l0).length cap0, .int .i64 (p1)] w0 fun e w' => e = .returned (.int .i64 (r)) ∧ Chg [] w0 w' := by
  have L0 := F0.low
  have hB : Chg [] w0 w0 := Chg.refl _ _
  have hZ := Nat.le_refl w0.heap.size
  unfold m_laws_szInt64SS at hm
  refine enterE (N := 27) Try.func36 (by rfl) Try.ntmps36 (by simp) [(0, .slice A0 (l0).length cap0), (1, .int .i64 (p1))] (by rfl) (by kernel_rfl) (fun a => ?_)
  refine cW_seq ?_
  refine cW_region ?_
  refine wS_pure 1 [(4, .int .i64 (0))] (by kernel_rfl) ?_
  refine wS_end (by rfl) ?_
  refine eX_then ?_
  refine cW_seq ?_
  refine cW_region ?_
  refine wS_pure 5 [(1, .int .i64 (wr (p1 - (((l0).length : Int))))), (9, .int .i64 (wr (p1 - (((l0).length : Int))))), (8, .int .i64 (((l0).length : Int))), (7, .slice A0 (l0).length cap0), (6, .int .i64 (p1))] (by kernel_rfl) ?_
  refine wS_end (by rfl) ?_
  refine eX_then ?_
  refine cW_seq ?_
  refine cW_seq ?_
  refine cW_region ?_
  refine wS_pure 2 [(11, .bool (decide ((wr (p1 - (((l0).length : Int)))) < 0))), (10, .int .i64 (wr (p1 - (((l0).length : Int)))))] (by kernel_rfl) ?_
  refine wS_end (by rfl) ?_
  refine eX_then ?_
  refine cW_cond (t := decide ((wr (p1 - (((l0).length : Int)))) < 0)) (by kernel_rfl) (fun hb2 => ?_) (fun hb2 => ?_)
  · have hm := condT hb2 hm
    refine cW_seq ?_
    refine cW_region ?_
    refine wS_pure 1 [(4, .int .i64 ((-1)))] (by kernel_rfl) ?_
    refine wS_end (by rfl) ?_
    refine eX_then ?_
    refine cW_ret ?_
    refine eX_then_ret ?_
    have hq : (some ((-1)) : Option ((Int))) = some _ := hm
    replace hq := someE hq
    subst hq
    refine eX_ret (vs := [.int .i64 ((-1))]) [.tmp 4] (by rfl) ⟨by (show lkE _ _ _ = _); kernel_rfl, trivial⟩ ?_
    exact ⟨rfl, hB⟩
  · have hm := condF hb2 hm
    refine cW_skip ?_
    refine eX_then ?_
    refine cW_seq ?_
    refine cW_seq ?_
    refine cW_region ?_
    refine wS_pure 1 [(5, .int .i64 (0))] (by kernel_rfl) ?_
    refine wS_end (by rfl) ?_
    refine eX_then ?_
    obtain ⟨r43, hr44, hm⟩ := bindE hm
    have hm45 := hm
    refine cW_cut (fun a' w' => ∃ x36 : Int, Sum.inl x36 = r43 ∧ Fr 27 [(1, .int .i64 (x36))] a' ∧ Chg [] w0 w' ∧ w0.heap.size ≤ w'.heap.size) ?_ ?_
    · refine cW_block ?_
      refine cW_loop _ (fun (s46 : Int × Int) a' w' => ∃ x39 : Int, ∃ x40 : Int, (x39, x40) = s46 ∧ Fr 27 [(0, .slice A0 (l0).length cap0), (1, .int .i64 (x39)), (5, .int .i64 (x40))] a' ∧ SlR 1 encI w' fp0 A0 l0 ∧ Chg [] w0 w' ∧ w0.heap.size ≤ w'.heap.size) hr44 (fun hst => ⟨wr (p1 - (((l0).length : Int))), 0, rfl, Fr.of hst (by kernel_rfl), F0, hB, hZ⟩) ?_
      rintro _ c47 a' w38 ⟨x39, x40, rfl, hF41, F42, hB, hZ⟩ hx48
      refine Fr.goOn hF41 (by kernel_rfl) ?_
      have hm := hx48
      unfold m_laws_szInt64SS_s1 at hm
      refine cW_seq ?_
      refine cW_seq ?_
      refine cW_region ?_
      refine wS_pure 4 [(15, .bool (decide (x40 < (((l0).length : Int))))), (14, .int .i64 (((l0).length : Int))), (13, .slice A0 (l0).length cap0), (12, .int .i64 (x40))] (by kernel_rfl) ?_
      refine wS_end (by rfl) ?_
      refine eX_then ?_
      refine cW_cond (t := decide (x40 < (((l0).length : Int)))) (by kernel_rfl) (fun hb49 => ?_) (fun hb49 => ?_)
      · have hm := condT hb49 hm
        refine cW_skip ?_
        refine eX_then ?_
        refine cW_seq ?_
        refine cW_block ?_
        refine cW_seq ?_
        refine cW_region ?_
        refine wS_pure 2 [(19, .int .i64 (x40)), (18, .slice A0 (l0).length cap0)] (by kernel_rfl) ?_
        obtain ⟨x50, hx51, hm⟩ := bindE hm
        refine wS_idx (d := 20) (T := 44) (A := A0) (n := (l0).length) (cap := cap0) (kd := .i64) (m := x40) (by kernel_rfl) sl44 (F42.is hx51) ?_
        obtain ⟨A52, cap53, hc55, F54⟩ := SlR.row F42 hx51
        refine wS_load1 (d := 21) (T := 68) (ad := (elA A0 1 (x40) 0)) (v := .slice A52 (x50).length cap53) (by kernel_rfl) vt68 hc55 ?_
        refine wS_pure 1 [(22, .int .i64 (x39))] (by kernel_rfl) ?_
        obtain ⟨y57, hy58, hm⟩ := bindE hm
        refine wS_calls (d := 23) (f := 93) (vs := [.slice A52 (x50).length cap53, .int .i64 (x39)]) (by kernel_rfl) ent93 (c_laws_szInt64S hy58 F54) ?_
        rintro _ w59 ⟨rfl, hc60⟩
        replace F42 := F42.chg hc60 Dj.nil
        replace F54 := F54.chg hc60 Dj.nil
        replace hB := hB.inS hc60 inNil
        replace hZ := Nat.le_trans hZ hc60.size
        refine ⟨.int .i64 (y57), rfl, ?_⟩
        refine wS_pure 1 [(1, .int .i64 (y57))] (by kernel_rfl) ?_
        refine wS_end (by rfl) ?_
        refine eX_then ?_
        refine cW_seq ?_
        refine cW_region ?_
        refine wS_pure 2 [(25, .bool (decide (y57 < 0))), (24, .int .i64 (y57))] (by kernel_rfl) ?_
        refine wS_end (by rfl) ?_
        refine eX_then ?_
        refine cW_cond (t := decide (y57 < 0)) (by kernel_rfl) (fun hb61 => ?_) (fun hb61 => ?_)
        · have hm := condT hb61 hm
          refine cW_seq ?_
          refine cW_region ?_
          refine wS_pure 1 [(4, .int .i64 ((-1)))] (by kernel_rfl) ?_
          refine wS_end (by rfl) ?_
          refine eX_then ?_
          refine cW_ret ?_
          refine eX_block_ret ?_
          refine eX_then_ret ?_
          have hq : (some (Ctl.out (Sum.inr ((-1)))) : Option (Ctl (Int × Int) (Sum (Int) ((Int))))) = some _ := hm
          replace hq := someE hq
          subst hq
          refine eX_outR hx48 (fun hr => ?_)
          subst hr
          refine eX_block_ret ?_
          refine eX_then_ret ?_
          refine eX_then_ret ?_
          have hq : (some ((-1)) : Option ((Int))) = some _ := hm45
          replace hq := someE hq
          subst hq
          refine eX_ret (vs := [.int .i64 ((-1))]) [.tmp 4] (by rfl) ⟨by (show lkE _ _ _ = _); kernel_rfl, trivial⟩ ?_
          exact ⟨rfl, hB⟩
        · have hm := condF hb61 hm
          refine cW_skip ?_
          refine eX_block ?_
          refine eX_then ?_
          refine cW_region ?_
          refine wS_pure 3 [(5, .int .i64 (wr (x40 + 1))), (17, .int .i64 (wr (x40 + 1))), (16, .int .i64 (x40))] (by kernel_rfl) ?_
          refine wS_end (by rfl) ?_
          have hq : (some (Ctl.next ((y57, wr (x40 + 1)))) : Option (Ctl (Int × Int) (Sum (Int) ((Int))))) = some _ := hm
          replace hq := someE hq
          subst hq
          exact eX_next hx48 (fun hst => ⟨y57, wr (x40 + 1), rfl, Fr.of hst (by kernel_rfl), F42, hB, hZ⟩)
      · have hm := condF hb49 hm
        refine cW_exit ?_
        refine eX_then_exit ?_
        have hq : (some (Ctl.out (Sum.inl x39)) : Option (Ctl (Int × Int) (Sum (Int) ((Int))))) = some _ := hm
        replace hq := someE hq
        subst hq
        refine eX_outX hx48 (fun hr62 => ?_)
        replace hr62 := hr62.symm
        subst hr62
        refine eX_block_hit ?_
        exact eX_J (fun hst => ⟨x39, rfl, Fr.of hst (by kernel_rfl), hB, hZ⟩)
    · rintro a' w35 ⟨x36, hJ, hF37, hB, hZ⟩
      subst hJ
      refine Fr.goX hF37 (by kernel_rfl) ?_
      refine eX_then ?_
      refine cW_seq ?_
      refine cW_region ?_
      refine wS_pure 2 [(4, .int .i64 (x36)), (26, .int .i64 (x36))] (by kernel_rfl) ?_
      refine wS_end (by rfl) ?_
      refine eX_then ?_
      refine cW_ret ?_
      have hq : (some x36 : Option ((Int))) = some _ := hm
      replace hq := someE hq
      subst hq
      refine eX_ret (vs := [.int .i64 (x36)]) [.tmp 4] (by rfl) ⟨by (show lkE _ _ _ = _); kernel_rfl, trivial⟩ ?_
      exact ⟨rfl, hB⟩

def m_laws_toInt64S_s1 (l0 : List (Int)) (s46 : Int × (List (Int))) : Option (Ctl (Int × (List (Int))) ((List (Int)))) :=
  match s46 with | (x38, l39) => (bif decide (x38 < (((l0).length : Int))) then Option.bind (geti l0 x38) fun x50 => Option.bind (geti l39 x38) fun x52 => some (Ctl.next ((wr (x38 + 1), l39.set (Int.toNat x38) x50))) else some (Ctl.out l39))
noncomputable def m_laws_toInt64S (l0 : List (Int)) : Option ((List (Int))) :=
  Option.bind (mkC (((l0).length : Int))) fun _ => Option.bind (loopM (m_laws_toInt64S_s1 l0) ((0, List.replicate (Int.toNat (((l0).length : Int))) ((0 : Int))))) fun (r43 : (List (Int))) => (fun (l34 : List (Int)) => some l34) r43
set_option maxRecDepth 100000 in
/-- laws.toInt64S -/
theorem c_laws_toInt64S {w0 : World} {l0 : List (Int)} {A0 : Option Addr} {cap0 : Nat} {fp0 : List Nat} {r : (List (Int))} (hm : m_laws_toInt64S l0 = some r) (F0 : Sl 1 encI w0 fp0 A0 l0) :
    Calls Try.prog 53 #[.slice A0 (l0).length cap0] w0 fun e w' => ∃ A100 cap100 fp100, e = .returned (.slice A100 (r).length cap100) ∧ Ow 1 encI 2 w' fp100 A100 cap100 r ∧ (∀ x ∈ fp100, w0.heap.size ≤ x) ∧ Chg [] w0 w' := by
  have L0 := F0.low
  have hB : Chg [] w0 w0 := Chg.refl _ _
  have hZ := Nat.le_refl w0.heap.size
  unfold m_laws_toInt64S at hm
  refine enterE (N := 22) Try.func53 (by rfl) Try.ntmps53 (by simp) [(0, .slice A0 (l0).length cap0)] (by rfl) (by kernel_rfl) (fun a => ?_)
  refine cW_seq ?_
  refine cW_region ?_
  refine wS_pure 1 [(2, .slice none 0 0)] (by kernel_rfl) ?_
  refine wS_end (by rfl) ?_
  refine eX_then ?_
  refine cW_seq ?_
  refine cW_region ?_
  refine wS_pure 2 [(6, .int .i64 (((l0).length : Int))), (5, .slice A0 (l0).length cap0)] (by kernel_rfl) ?_
  obtain ⟨_, hk2, hm⟩ := bindE hm
  replace hk2 := mkE hk2
  refine wS_make (enc := encI) (x0 := (0 : Int)) (d := 7) (t := 68) (T := 2) (k1 := .i64) (k2 := .i64) (m := ((l0).length : Int)) (by kernel_rfl) el68 encI_ok (by rfl) hk2.1 hk2.2 ?_
  intro b3 w4 G5 F6 hc7
  replace F0 := F0.chg hc7 Dj.nil
  replace hB := hB.inS hc7 inNil
  replace G5 := Nat.le_trans hZ G5
  replace G5 := low1 G5
  replace hZ := Nat.le_trans hZ hc7.size
  refine wS_pure 1 [(3, .slice (some ⟨b3, 0, none⟩) (List.replicate (Int.toNat (((l0).length : Int))) ((0 : Int))).length (Int.toNat (((l0).length : Int))))] (by kernel_rfl) ?_
  refine wS_end (by rfl) ?_
  refine eX_then ?_
  refine cW_seq ?_
  refine cW_seq ?_
  refine cW_region ?_
  refine wS_pure 1 [(4, .int .i64 (0))] (by kernel_rfl) ?_
  refine wS_end (by rfl) ?_
  refine eX_then ?_
  obtain ⟨r43, hr44, hm⟩ := bindE hm
  have hm45 := hm
  refine cW_cut (fun a' w' => ∃ l34 : List (Int), l34 = r43 ∧ Fr 22 [(3, .slice (some ⟨b3, 0, none⟩) (l34).length (Int.toNat (((l0).length : Int))))] a' ∧ Ow 1 encI 2 w' [b3] (some ⟨b3, 0, none⟩) (Int.toNat (((l0).length : Int))) l34 ∧ Chg [] w0 w' ∧ w0.heap.size ≤ w'.heap.size) ?_ ?_
  · refine cW_block ?_
    refine cW_loop _ (fun (s46 : Int × (List (Int))) a' w' => ∃ x38 : Int, ∃ l39 : List (Int), (x38, l39) = s46 ∧ Fr 22 [(0, .slice A0 (l0).length cap0), (3, .slice (some ⟨b3, 0, none⟩) (l39).length (Int.toNat (((l0).length : Int)))), (4, .int .i64 (x38))] a' ∧ Sl 1 encI w' fp0 A0 l0 ∧ Ow 1 encI 2 w' [b3] (some ⟨b3, 0, none⟩) (Int.toNat (((l0).length : Int))) l39 ∧ Chg [] w0 w' ∧ w0.heap.size ≤ w'.heap.size) hr44 (fun hst => ⟨0, List.replicate (Int.toNat (((l0).length : Int))) ((0 : Int)), rfl, Fr.of hst (by kernel_rfl), F0, F6, hB, hZ⟩) ?_
    rintro _ c47 a' w37 ⟨x38, l39, rfl, hF40, F41, F42, hB, hZ⟩ hx48
    refine Fr.goOn hF40 (by kernel_rfl) ?_
    have hm := hx48
    unfold m_laws_toInt64S_s1 at hm
    refine cW_seq ?_
    refine cW_seq ?_
    refine cW_region ?_
    refine wS_pure 4 [(11, .bool (decide (x38 < (((l0).length : Int))))), (10, .int .i64 (((l0).length : Int))), (9, .slice A0 (l0).length cap0), (8, .int .i64 (x38))] (by kernel_rfl) ?_
    refine wS_end (by rfl) ?_
    refine eX_then ?_
    refine cW_cond (t := decide (x38 < (((l0).length : Int)))) (by kernel_rfl) (fun hb49 => ?_) (fun hb49 => ?_)
    · have hm := condT hb49 hm
      refine cW_skip ?_
      refine eX_then ?_
      refine cW_seq ?_
      refine cW_block ?_
      refine cW_region ?_
      refine wS_pure 4 [(17, .int .i64 (x38)), (16, .slice A0 (l0).length cap0), (15, .int .i64 (x38)), (14, .slice (some ⟨b3, 0, none⟩) (l39).length (Int.toNat (((l0).length : Int))))] (by kernel_rfl) ?_
      obtain ⟨x50, hx51, hm⟩ := bindE hm
      refine wS_idx (d := 18) (T := 68) (A := A0) (n := (l0).length) (cap := cap0) (kd := .i64) (m := x38) (by kernel_rfl) sl68 (F41.is hx51) ?_
      refine wS_load1 (d := 19) (T := 2) (ad := (elA A0 1 (x38) 0)) (v := .int .i64 (x50)) (by kernel_rfl) vt2 (Sl.cell F41 hx51 0 (by rfl)) ?_
      obtain ⟨x52, hx53, hm⟩ := bindE hm
      refine wS_idx (d := 20) (T := 68) (A := (some ⟨b3, 0, none⟩)) (n := (l39).length) (cap := (Int.toNat (((l0).length : Int)))) (kd := .i64) (m := x38) (by kernel_rfl) sl68 ((F42.sl encI_ok).is hx53) ?_
      refine wS_storeEl (x := x52) x50 (T := 2) (U := 2) (cap := (Int.toNat (((l0).length : Int)))) (j := 0) (A := (some ⟨b3, 0, none⟩)) (v := .int .i64 (x50)) (vs := [.int .i64 (x50)]) (m := x38) (by kernel_rfl) (by rfl) sz2 (by rfl) encI_ok F42 hx53 (by simp only [List.length_cons, List.length_nil]; omega) (by rfl) ?_
      intro w54 F55 hc56
      replace F41 := F41.chg hc56 (Dj.of L0 G5)
      replace hB := hB.inS hc56 (inLow G5)
      replace hZ := Nat.le_trans hZ hc56.size
      clear F42
      rewrite [show (l39).length = (l39.set (Int.toNat x38) x50).length from (List.length_set ..).symm]
      refine wS_end (by rfl) ?_
      refine eX_block ?_
      refine eX_then ?_
      refine cW_region ?_
      refine wS_pure 3 [(4, .int .i64 (wr (x38 + 1))), (13, .int .i64 (wr (x38 + 1))), (12, .int .i64 (x38))] (by kernel_rfl) ?_
      refine wS_end (by rfl) ?_
      have hq : (some (Ctl.next ((wr (x38 + 1), l39.set (Int.toNat x38) x50))) : Option (Ctl (Int × (List (Int))) ((List (Int))))) = some _ := hm
      replace hq := someE hq
      subst hq
      exact eX_next hx48 (fun hst => ⟨wr (x38 + 1), l39.set (Int.toNat x38) x50, rfl, Fr.of hst (by kernel_rfl), F41, F55, hB, hZ⟩)
    · have hm := condF hb49 hm
      refine cW_exit ?_
      refine eX_then_exit ?_
      have hq : (some (Ctl.out l39) : Option (Ctl (Int × (List (Int))) ((List (Int))))) = some _ := hm
      replace hq := someE hq
      subst hq
      refine eX_outX hx48 (fun hr57 => ?_)
      replace hr57 := hr57.symm
      subst hr57
      refine eX_block_hit ?_
      exact eX_J (fun hst => ⟨l39, rfl, Fr.of hst (by kernel_rfl), F42, hB, hZ⟩)
  · rintro a' w33 ⟨l34, hJ, hF35, F36, hB, hZ⟩
    subst hJ
    refine Fr.goX hF35 (by kernel_rfl) ?_
    refine eX_then ?_
    refine cW_seq ?_
    refine cW_region ?_
    refine wS_pure 2 [(2, .slice (some ⟨b3, 0, none⟩) (l34).length (Int.toNat (((l0).length : Int)))), (21, .slice (some ⟨b3, 0, none⟩) (l34).length (Int.toNat (((l0).length : Int))))] (by kernel_rfl) ?_
    refine wS_end (by rfl) ?_
    refine eX_then ?_
    refine cW_ret ?_
    have hq : (some l34 : Option ((List (Int)))) = some _ := hm
    replace hq := someE hq
    subst hq
    refine eX_ret (vs := [.slice (some ⟨b3, 0, none⟩) (l34).length (Int.toNat (((l0).length : Int)))]) [.tmp 2] (by rfl) ⟨by (show lkE _ _ _ = _); kernel_rfl, trivial⟩ ?_
    exact ⟨(some ⟨b3, 0, none⟩), (Int.toNat (((l0).length : Int))), [b3], rfl, F36, G5, hB⟩

noncomputable def m_laws_toInt64SS_s1 (l0 : List (List (Int))) (s103 : (List (List (Int))) × Int) : Option (Ctl ((List (List (Int))) × Int) ((List (List (Int))))) :=
  match s103 with | (l90, x95) => (bif decide (x95 < (((l0).length : Int))) then Option.bind (geti l0 x95) fun x107 => Option.bind (m_laws_toInt64S x107) fun y114 => Option.bind (geti l90 x95) fun x125 => some (Ctl.next ((l90.set (Int.toNat x95) y114, wr (x95 + 1)))) else some (Ctl.out l90))
noncomputable def m_laws_toInt64SS (l0 : List (List (Int))) : Option ((List (List (Int)))) :=
  Option.bind (mkC (((l0).length : Int))) fun _ => Option.bind (loopM (m_laws_toInt64SS_s1 l0) ((List.replicate (Int.toNat (((l0).length : Int))) ([] : List (Int)), 0))) fun (r100 : (List (List (Int)))) => (fun (l81 : List (List (Int))) => some l81) r100
set_option maxRecDepth 100000 in
/-- laws.toInt64SS -/
theorem c_laws_toInt64SS {w0 : World} {l0 : List (List (Int))} {A0 : Option Addr} {cap0 : Nat} {fp0 : List Nat} {r : (List (List (Int)))} (hm : m_laws_toInt64SS l0 = some r) (F0 : SlR 1 encI w0 fp0 A0 l0) :
    Calls Try.prog 38 #[.slice A0 (l0).length cap0] w0 fun e w' => ∃ A100 cap100 fp100, e = .returned (.slice A100 (r).length cap100) ∧ OwR 1 encI 68 w' fp100 A100 cap100 r ∧ (∀ x ∈ fp100, w0.heap.size ≤ x) ∧ Chg [] w0 w' := by
  have L0 := F0.low
  have hB : Chg [] w0 w0 := Chg.refl _ _
  have hZ := Nat.le_refl w0.heap.size
  unfold m_laws_toInt64SS at hm
  refine enterE (N := 23) Try.func38 (by rfl) Try.ntmps38 (by simp) [(0, .slice A0 (l0).length cap0)] (by rfl) (by kernel_rfl) (fun a => ?_)
  refine cW_seq ?_
  refine cW_region ?_
  refine wS_pure 1 [(2, .slice none 0 0)] (by kernel_rfl) ?_
  refine wS_end (by rfl) ?_
  refine eX_then ?_
  refine cW_seq ?_
  refine cW_region ?_
  refine wS_pure 2 [(6, .int .i64 (((l0).length : Int))), (5, .slice A0 (l0).length cap0)] (by kernel_rfl) ?_
  obtain ⟨_, hk2, hm⟩ := bindE hm
  replace hk2 := mkE hk2
  refine wS_makeR (k := 1) (enc := encI) (d := 7) (t := 44) (T := 68) (k1 := .i64) (k2 := .i64) (m := ((l0).length : Int)) (by kernel_rfl) el44 hk2.1 hk2.2 ?_
  intro b3 w4 G5 F6 hc7
  replace F0 := F0.chg hc7 Dj.nil
  replace hB := hB.inS hc7 inNil
  replace G5 := Nat.le_trans hZ G5
  replace G5 := low1 G5
  replace hZ := Nat.le_trans hZ hc7.size
  refine wS_pure 1 [(3, .slice (some ⟨b3, 0, none⟩) (List.replicate (Int.toNat (((l0).length : Int))) ([] : List (Int))).length (Int.toNat (((l0).length : Int))))] (by kernel_rfl) ?_
  refine wS_end (by rfl) ?_
  refine eX_then ?_
  refine cW_seq ?_
  refine cW_seq ?_
  refine cW_region ?_
  refine wS_pure 1 [(4, .int .i64 (0))] (by kernel_rfl) ?_
  refine wS_end (by rfl) ?_
  refine eX_then ?_
  obtain ⟨r100, hr101, hm⟩ := bindE hm
  have hm102 := hm
  refine cW_cut (fun a' w' => ∃ l81 : List (List (Int)), ∃ A82 : Option Addr, ∃ cap83 : Nat, ∃ fp84 : List Nat, l81 = r100 ∧ Fr 23 [(3, .slice A82 (l81).length cap83)] a' ∧ OwR 1 encI 68 w' fp84 A82 cap83 l81 ∧ (∀ x ∈ fp84, w0.heap.size ≤ x) ∧ Chg [] w0 w' ∧ w0.heap.size ≤ w'.heap.size) ?_ ?_
  · refine cW_block ?_
    refine cW_loop _ (fun (s103 : (List (List (Int))) × Int) a' w' => ∃ l90 : List (List (Int)), ∃ A91 : Option Addr, ∃ cap92 : Nat, ∃ fp93 : List Nat, ∃ x95 : Int, (l90, x95) = s103 ∧ Fr 23 [(0, .slice A0 (l0).length cap0), (3, .slice A91 (l90).length cap92), (4, .int .i64 (x95))] a' ∧ SlR 1 encI w' fp0 A0 l0 ∧ OwR 1 encI 68 w' fp93 A91 cap92 l90 ∧ (∀ x ∈ fp93, w0.heap.size ≤ x) ∧ Chg [] w0 w' ∧ w0.heap.size ≤ w'.heap.size) hr101 (fun hst => ⟨List.replicate (Int.toNat (((l0).length : Int))) ([] : List (Int)), (some ⟨b3, 0, none⟩), (Int.toNat (((l0).length : Int))), [b3], 0, rfl, Fr.of hst (by kernel_rfl), F0, F6, G5, hB, hZ⟩) ?_
    rintro _ c104 a' w89 ⟨l90, A91, cap92, fp93, x95, rfl, hF96, F97, F98, G99, hB, hZ⟩ hx105
    refine Fr.goOn hF96 (by kernel_rfl) ?_
    have hm := hx105
    unfold m_laws_toInt64SS_s1 at hm
    refine cW_seq ?_
    refine cW_seq ?_
    refine cW_region ?_
    refine wS_pure 4 [(11, .bool (decide (x95 < (((l0).length : Int))))), (10, .int .i64 (((l0).length : Int))), (9, .slice A0 (l0).length cap0), (8, .int .i64 (x95))] (by kernel_rfl) ?_
    refine wS_end (by rfl) ?_
    refine eX_then ?_
    refine cW_cond (t := decide (x95 < (((l0).length : Int)))) (by kernel_rfl) (fun hb106 => ?_) (fun hb106 => ?_)
    · have hm := condT hb106 hm
      refine cW_skip ?_
      refine eX_then ?_
      refine cW_seq ?_
      refine cW_block ?_
      refine cW_region ?_
      refine wS_pure 4 [(17, .int .i64 (x95)), (16, .slice A0 (l0).length cap0), (15, .int .i64 (x95)), (14, .slice A91 (l90).length cap92)] (by kernel_rfl) ?_
      obtain ⟨x107, hx108, hm⟩ := bindE hm
      refine wS_idx (d := 18) (T := 44) (A := A0) (n := (l0).length) (cap := cap0) (kd := .i64) (m := x95) (by kernel_rfl) sl44 (F97.is hx108) ?_
      obtain ⟨A109, cap110, hc112, F111⟩ := SlR.row F97 hx108
      refine wS_load1 (d := 19) (T := 68) (ad := (elA A0 1 (x95) 0)) (v := .slice A109 (x107).length cap110) (by kernel_rfl) vt68 hc112 ?_
      obtain ⟨y114, hy115, hm⟩ := bindE hm
      refine wS_calls (d := 20) (f := 53) (vs := [.slice A109 (x107).length cap110]) (by kernel_rfl) ent53 (c_laws_toInt64S hy115 F111) ?_
      rintro _ w116 ⟨A118, cap119, fp120, rfl, F121, G122, hc117⟩
      have D124 : Dj fp93 fp120 := Dj.of F98.low G122
      replace F97 := F97.chg hc117 Dj.nil
      replace F98 := F98.chg hc117 Dj.nil
      replace F111 := F111.chg hc117 Dj.nil
      replace hB := hB.inS hc117 inNil
      replace G122 := low_le hZ G122
      replace hZ := Nat.le_trans hZ hc117.size
      refine ⟨.slice A118 (y114).length cap119, rfl, ?_⟩
      obtain ⟨x125, hx126, hm⟩ := bindE hm
      refine wS_idx (d := 21) (T := 44) (A := A91) (n := (l90).length) (cap := cap92) (kd := .i64) (m := x95) (by kernel_rfl) sl44 ((F98.slr).is hx126) ?_
      refine wS_storeRow (k := 1) (enc := encI) (x := x125) (l := y114) (T := 68) (U := 68) (cap := cap92) (c := cap119) (A := A91) (B := A118) (m := x95) (by kernel_rfl) sz68 F98 (F121.sl encI_ok) D124 hx126 ?_
      intro w130 F131 hc132
      have G134 := lowApp G99 G122
      replace F97 := F97.chg hc132 (Dj.of L0 G99)
      replace F111 := F111.chg hc132 (Dj.of L0 G99)
      replace F121 := F121.chg hc132 (D124).symm
      replace hB := hB.inS hc132 (inLow G99)
      replace hZ := Nat.le_trans hZ hc132.size
      replace F121 := (F121.sl encI_ok)
      rewrite [show (l90).length = (l90.set (Int.toNat x95) y114).length from (List.length_set ..).symm]
      refine wS_end (by rfl) ?_
      refine eX_block ?_
      refine eX_then ?_
      refine cW_region ?_
      refine wS_pure 3 [(4, .int .i64 (wr (x95 + 1))), (13, .int .i64 (wr (x95 + 1))), (12, .int .i64 (x95))] (by kernel_rfl) ?_
      refine wS_end (by rfl) ?_
      have hq : (some (Ctl.next ((l90.set (Int.toNat x95) y114, wr (x95 + 1)))) : Option (Ctl ((List (List (Int))) × Int) ((List (List (Int)))))) = some _ := hm
      replace hq := someE hq
      subst hq
      exact eX_next hx105 (fun hst => ⟨l90.set (Int.toNat x95) y114, A91, cap92, (fp93 ++ fp120), wr (x95 + 1), rfl, Fr.of hst (by kernel_rfl), F97, F131, G134, hB, hZ⟩)
    · have hm := condF hb106 hm
      refine cW_exit ?_
      refine eX_then_exit ?_
      have hq : (some (Ctl.out l90) : Option (Ctl ((List (List (Int))) × Int) ((List (List (Int)))))) = some _ := hm
      replace hq := someE hq
      subst hq
      refine eX_outX hx105 (fun hr135 => ?_)
      replace hr135 := hr135.symm
      subst hr135
      refine eX_block_hit ?_
      exact eX_J (fun hst => ⟨l90, A91, cap92, fp93, rfl, Fr.of hst (by kernel_rfl), F98, G99, hB, hZ⟩)
  · rintro a' w80 ⟨l81, A82, cap83, fp84, hJ, hF86, F87, G88, hB, hZ⟩
    subst hJ
    refine Fr.goX hF86 (by kernel_rfl) ?_
    refine eX_then ?_
    refine cW_seq ?_
    refine cW_region ?_
    refine wS_pure 2 [(2, .slice A82 (l81).length cap83), (22, .slice A82 (l81).length cap83)] (by kernel_rfl) ?_
    refine wS_end (by rfl) ?_
    refine eX_then ?_
    refine cW_ret ?_
    have hq : (some l81 : Option ((List (List (Int))))) = some _ := hm
    replace hq := someE hq
    subst hq
    refine eX_ret (vs := [.slice A82 (l81).length cap83]) [.tmp 2] (by rfl) ⟨by (show lkE _ _ _ = _); kernel_rfl, trivial⟩ ?_
    exact ⟨A82, cap83, fp84, rfl, F87, G88, hB⟩

def m_spec_l00In (p0 : Int) (p1 : Int) (p2 : Int) : Option ((Bool)) :=
  (bif decide (p0 ≥ p1) then some (decide (p0 ≤ p2)) else some false)
set_option maxRecDepth 100000 in
/-- spec.l00In -/
theorem c_spec_l00In {w0 : World} {p0 : Int} {p1 : Int} {p2 : Int} {r : (Bool)} (hm : m_spec_l00In p0 p1 p2 = some r)  :
    Calls Try.prog 88 #[.int .i64 (p0), .int .i64 (p1), .int .i64 (p2)] w0 fun e w' => e = .returned (.bool (r)) ∧ Chg [] w0 w' := by
  have hB : Chg [] w0 w0 := Chg.refl _ _
  have hZ := Nat.le_refl w0.heap.size
  unfold m_spec_l00In at hm
  refine enterE (N := 15) Try.func88 (by rfl) Try.ntmps88 (by simp) [(0, .int .i64 (p0)), (1, .int .i64 (p1)), (2, .int .i64 (p2))] (by rfl) (by kernel_rfl) (fun a => ?_)
  refine cW_seq ?_
  refine cW_region ?_
  refine wS_pure 1 [(6, .bool (false))] (by kernel_rfl) ?_
  refine wS_end (by rfl) ?_
  refine eX_then ?_
  refine cW_seq ?_
  refine cW_region ?_
  refine wS_pure 4 [(10, .bool (decide (p0 ≥ p1))), (9, .bool (decide (p0 ≥ p1))), (8, .int .i64 (p1)), (7, .int .i64 (p0))] (by kernel_rfl) ?_
  refine wS_bool (decide (p0 ≥ p1)) (fun hb1 => ?_) (fun hb1 => ?_)
  · have hm := condT hb1 hm
    rewrite [hb1]
    refine wS_pure 5 [(6, .bool (decide (p0 ≤ p2))), (14, .bool (decide (p0 ≤ p2))), (13, .bool (decide (p0 ≤ p2))), (12, .int .i64 (p2)), (11, .int .i64 (p0))] (by kernel_rfl) ?_
    refine wS_end (by rfl) ?_
    refine eX_then ?_
    refine cW_ret ?_
    have hq : (some (decide (p0 ≤ p2)) : Option ((Bool))) = some _ := hm
    replace hq := someE hq
    subst hq
    refine eX_ret (vs := [.bool (decide (p0 ≤ p2))]) [.tmp 6] (by rfl) ⟨by (show lkE _ _ _ = _); kernel_rfl, trivial⟩ ?_
    exact ⟨rfl, hB⟩
  · have hm := condF hb1 hm
    rewrite [hb1]
    refine wS_pure 5 [(6, .bool (false)), (14, .bool (false)), (13, undef), (12, undef), (11, undef)] (by kernel_rfl) ?_
    refine wS_end (by rfl) ?_
    refine eX_then ?_
    refine cW_ret ?_
    have hq : (some false : Option ((Bool))) = some _ := hm
    replace hq := someE hq
    subst hq
    refine eX_ret (vs := [.bool (false)]) [.tmp 6] (by rfl) ⟨by (show lkE _ _ _ = _); kernel_rfl, trivial⟩ ?_
    exact ⟨rfl, hB⟩

noncomputable def m_spec_l06Joins_s1 (p0 : Int) (l1 : List (List (Int))) (s416 : Int × (List (Bool))) : Option (Ctl (Int × (List (Bool))) (Sum (Unit) ((Bool)))) :=
  match s416 with | (x408, l409) => (bif decide (x408 < (wr (p0 - 1))) then Option.bind (geti l1 x408) fun x502 => (bif (((x502).length : Int)) != 2 then some (Ctl.out (Sum.inr false)) else Option.bind (geti l1 x408) fun x512 => Option.bind (geti x512 0) fun x520 => Option.bind (m_spec_l00In x520 0 (wr ((wr (p0 + x408)) - 1))) fun y522 => (bif !y522 then some (Ctl.out (Sum.inr false)) else Option.bind (geti l1 x408) fun x528 => Option.bind (geti x528 1) fun x536 => Option.bind (geti l1 x408) fun x538 => Option.bind (geti x538 0) fun x546 => Option.bind (m_spec_l00In x536 (wr (x546 + 1)) (wr ((wr (p0 + x408)) - 1))) fun y548 => (bif !y548 then some (Ctl.out (Sum.inr false)) else Option.bind (geti l1 x408) fun x554 => Option.bind (geti x554 0) fun x562 => Option.bind (geti l409 x562) fun x564 => (bif x564 then some (Ctl.out (Sum.inr false)) else Option.bind (geti l1 x408) fun x568 => Option.bind (geti x568 1) fun x576 => Option.bind (geti l409 x576) fun x578 => (bif x578 then some (Ctl.out (Sum.inr false)) else Option.bind (geti l1 x408) fun x582 => Option.bind (geti x582 0) fun x589 => Option.bind (geti l409 x589) fun x591 => Option.bind (geti l1 x408) fun x596 => Option.bind (geti x596 1) fun x603 => Option.bind (geti (l409.set (Int.toNat x589) true) x603) fun x605 => some (Ctl.next ((wr (x408 + 1), (l409.set (Int.toNat x589) true).set (Int.toNat x603) true)))))))) else some (Ctl.out (Sum.inl (()))))
noncomputable def m_spec_l06Joins (p0 : Int) (l1 : List (List (Int))) : Option ((Bool)) :=
  Option.bind (m_spec_l00In p0 2 12) fun y2 => (bif !y2 then some false else (bif (((l1).length : Int)) != (wr (p0 - 1)) then some false else Option.bind (mkC (wr ((wr (2 * p0)) - 1))) fun _ => Option.bind (loopM (m_spec_l06Joins_s1 p0 l1) ((0, List.replicate (Int.toNat (wr ((wr (2 * p0)) - 1))) ((false : Bool))))) fun (r413 : Sum (Unit) ((Bool))) => match r413 with | Sum.inl q612 => (some true) | Sum.inr v611 => some v611))
set_option maxRecDepth 100000 in
/-- spec.l06Joins -/
theorem c_spec_l06Joins {w0 : World} {p0 : Int} {l1 : List (List (Int))} {A1 : Option Addr} {cap1 : Nat} {fp1 : List Nat} {r : (Bool)} (hm : m_spec_l06Joins p0 l1 = some r) (F1 : SlR 1 encI w0 fp1 A1 l1) :
    Calls Try.prog 94 #[.int .i64 (p0), .slice A1 (l1).length cap1] w0 fun e w' => e = .returned (.bool (r)) ∧ Chg [] w0 w' := by
  have L1 := F1.low
  have hB : Chg [] w0 w0 := Chg.refl _ _
  have hZ := Nat.le_refl w0.heap.size
  unfold m_spec_l06Joins at hm
  refine enterE (N := 106) Try.func94 (by rfl) Try.ntmps94 (by simp) [(0, .int .i64 (p0)), (1, .slice A1 (l1).length cap1)] (by rfl) (by kernel_rfl) (fun a => ?_)
  refine cW_seq ?_
  refine cW_region ?_
  refine wS_pure 1 [(4, .bool (false))] (by kernel_rfl) ?_
  refine wS_end (by rfl) ?_
  refine eX_then ?_
  refine cW_seq ?_
  refine cW_seq ?_
  refine cW_region ?_
  refine wS_pure 1 [(7, .int .i64 (p0))] (by kernel_rfl) ?_
  obtain ⟨y2, hy3, hm⟩ := bindE hm
  refine wS_calls (d := 8) (f := 88) (vs := [.int .i64 (p0), .int .i64 (2), .int .i64 (12)]) (by kernel_rfl) ent88 (c_spec_l00In hy3) ?_
  rintro _ w4 ⟨rfl, hc5⟩
  replace F1 := F1.chg hc5 Dj.nil
  replace hB := hB.inS hc5 inNil
  replace hZ := Nat.le_trans hZ hc5.size
  refine ⟨.bool (y2), rfl, ?_⟩
  refine wS_pure 2 [(10, .bool (!y2)), (9, .bool (!y2))] (by kernel_rfl) ?_
  refine wS_bool (!y2) (fun hb6 => ?_) (fun hb6 => ?_)
  · have hm := condT hb6 hm
    rewrite [hb6]
    refine wS_pure 6 [(16, .bool (true)), (15, undef), (14, undef), (13, undef), (12, undef), (11, undef)] (by kernel_rfl) ?_
    refine wS_end (by rfl) ?_
    refine eX_then ?_
    refine cW_cond_t (by kernel_rfl) ?_
    refine cW_seq ?_
    refine cW_region ?_
    refine wS_pure 1 [(4, .bool (false))] (by kernel_rfl) ?_
    refine wS_end (by rfl) ?_
    refine eX_then ?_
    refine cW_ret ?_
    refine eX_then_ret ?_
    have hq : (some false : Option ((Bool))) = some _ := hm
    replace hq := someE hq
    subst hq
    refine eX_ret (vs := [.bool (false)]) [.tmp 4] (by rfl) ⟨by (show lkE _ _ _ = _); kernel_rfl, trivial⟩ ?_
    exact ⟨rfl, hB⟩
  · have hm := condF hb6 hm
    rewrite [hb6]
    refine wS_pure 6 [(16, .bool ((((l1).length : Int)) != (wr (p0 - 1)))), (15, .bool ((((l1).length : Int)) != (wr (p0 - 1)))), (14, .int .i64 (wr (p0 - 1))), (13, .int .i64 (p0)), (12, .int .i64 (((l1).length : Int))), (11, .slice A1 (l1).length cap1)] (by kernel_rfl) ?_
    refine wS_end (by rfl) ?_
    refine eX_then ?_
    refine cW_cond (t := (((l1).length : Int)) != (wr (p0 - 1))) (by kernel_rfl) (fun hb7 => ?_) (fun hb7 => ?_)
    · have hm := condT hb7 hm
      refine cW_seq ?_
      refine cW_region ?_
      refine wS_pure 1 [(4, .bool (false))] (by kernel_rfl) ?_
      refine wS_end (by rfl) ?_
      refine eX_then ?_
      refine cW_ret ?_
      refine eX_then_ret ?_
      have hq : (some false : Option ((Bool))) = some _ := hm
      replace hq := someE hq
      subst hq
      refine eX_ret (vs := [.bool (false)]) [.tmp 4] (by rfl) ⟨by (show lkE _ _ _ = _); kernel_rfl, trivial⟩ ?_
      exact ⟨rfl, hB⟩
    · have hm := condF hb7 hm
      refine cW_skip ?_
      refine eX_then ?_
      refine cW_seq ?_
      refine cW_region ?_
      refine wS_pure 3 [(19, .int .i64 (wr ((wr (2 * p0)) - 1))), (18, .int .i64 (wr (2 * p0))), (17, .int .i64 (p0))] (by kernel_rfl) ?_
      obtain ⟨_, hk8, hm⟩ := bindE hm
      replace hk8 := mkE hk8
      refine wS_make (enc := encB) (x0 := (false : Bool)) (d := 20) (t := 130) (T := 4) (k1 := .i64) (k2 := .i64) (m := wr ((wr (2 * p0)) - 1)) (by kernel_rfl) el130 encB_ok (by rfl) hk8.1 hk8.2 ?_
      intro b9 w10 G11 F12 hc13
      replace F1 := F1.chg hc13 Dj.nil
      replace hB := hB.inS hc13 inNil
      replace G11 := Nat.le_trans hZ G11
      replace G11 := low1 G11
      replace hZ := Nat.le_trans hZ hc13.size
      refine wS_pure 1 [(5, .slice (some ⟨b9, 0, none⟩) (List.replicate (Int.toNat (wr ((wr (2 * p0)) - 1))) ((false : Bool))).length (Int.toNat (wr ((wr (2 * p0)) - 1))))] (by kernel_rfl) ?_
      refine wS_end (by rfl) ?_
      refine eX_then ?_
      refine cW_seq ?_
      refine cW_seq ?_
      refine cW_region ?_
      refine wS_pure 1 [(6, .int .i64 (0))] (by kernel_rfl) ?_
      refine wS_end (by rfl) ?_
      refine eX_then ?_
      obtain ⟨r413, hr414, hm⟩ := bindE hm
      have hm415 := hm
      refine cW_cut (fun a' w' => Sum.inl (()) = r413 ∧ Fr 106 [] a' ∧ Chg [] w0 w' ∧ w0.heap.size ≤ w'.heap.size) ?_ ?_
      · refine cW_block ?_
        refine cW_loop _ (fun (s416 : Int × (List (Bool))) a' w' => ∃ x408 : Int, ∃ l409 : List (Bool), (x408, l409) = s416 ∧ Fr 106 [(0, .int .i64 (p0)), (1, .slice A1 (l1).length cap1), (5, .slice (some ⟨b9, 0, none⟩) (l409).length (Int.toNat (wr ((wr (2 * p0)) - 1)))), (6, .int .i64 (x408))] a' ∧ SlR 1 encI w' fp1 A1 l1 ∧ Ow 1 encB 4 w' [b9] (some ⟨b9, 0, none⟩) (Int.toNat (wr ((wr (2 * p0)) - 1))) l409 ∧ Chg [] w0 w' ∧ w0.heap.size ≤ w'.heap.size) hr414 (fun hst => ⟨0, List.replicate (Int.toNat (wr ((wr (2 * p0)) - 1))) ((false : Bool)), rfl, Fr.of hst (by kernel_rfl), F1, F12, hB, hZ⟩) ?_
        rintro _ c417 a' w407 ⟨x408, l409, rfl, hF410, F411, F412, hB, hZ⟩ hx418
        refine Fr.goOn hF410 (by kernel_rfl) ?_
        have hm := hx418
        unfold m_spec_l06Joins_s1 at hm
        refine cW_seq ?_
        refine cW_seq ?_
        refine cW_region ?_
        refine wS_pure 4 [(24, .bool (decide (x408 < (wr (p0 - 1))))), (23, .int .i64 (wr (p0 - 1))), (22, .int .i64 (p0)), (21, .int .i64 (x408))] (by kernel_rfl) ?_
        refine wS_end (by rfl) ?_
        refine eX_then ?_
        refine cW_cond (t := decide (x408 < (wr (p0 - 1)))) (by kernel_rfl) (fun hb419 => ?_) (fun hb419 => ?_)
        · have hm := condT hb419 hm
          refine cW_skip ?_
          refine eX_then ?_
          refine cW_seq ?_
          refine cW_block ?_
          refine cW_seq ?_
          refine cW_seq ?_
          refine cW_drawnTail [] 60 (by kernel_rfl) (by kernel_rfl) (fun w498 hc499 => ?_)
          replace F411 := F411.chg hc499 Dj.nil
          replace F412 := F412.chg hc499 Dj.nil
          replace hB := hB.inS hc499 inNil
          replace hZ := Nat.le_trans hZ hc499.size
          have hS := Chg.refl [] w498
          have Z500 := F411
          have Z501 := F412
          refine wH_take [0, 1] [1, 0] [(28, .int .i64 (x408)), (27, .slice A1 (l1).length cap1)] (by kernel_rfl) (qT (qT (qT (qB (qT (qL (qB (qT (qT qZ))))))))) (by kernel_rfl) ?_
          obtain ⟨x502, hx503, hm⟩ := bindE hm
          refine wH_idx (i := 2) (d := 29) (T := 44) (A := A1) (n := (l1).length) (cap := cap1) (kd := .i64) (m := x408) (by kernel_rfl) (qT (qT (qT (qB (qT (qL (qB (qT (qT qZ))))))))) (by kernel_rfl) (by kernel_rfl) sl44 (F411.is hx503) ?_
          obtain ⟨A504, cap505, hc507, F506⟩ := SlR.row Z500 hx503
          have F508 := F506.chg hS Dj.nil
          refine wH_load1 (i := 3) (d := 30) (T := 68) (ad := (elA A1 1 (x408) 0)) (v := .slice A504 (x502).length cap505) (by kernel_rfl) (qT (qT (qT (qB (qT (qL (qB (qT (qT qZ))))))))) (by kernel_rfl) (by kernel_rfl) vt68 (fun W hW => hW.keep hc507) ?_
          refine wH_take [4, 5, 6] [6, 5, 4, 3, 2, 1, 0] [(33, .bool ((((x502).length : Int)) != 2)), (32, .bool ((((x502).length : Int)) != 2)), (31, .int .i64 (((x502).length : Int)))] (by kernel_rfl) (qT (qT (qT (qB (qT (qL (qB (qT (qT qZ))))))))) (by kernel_rfl) ?_
          refine wH_bool ((((x502).length : Int)) != 2) (fun hb510 => ?_) (fun hb510 => ?_)
          · have hm := condT hb510 hm
            rewrite [hb510]
            refine wH_take [7, 8, 9, 10, 11, 12, 13, 14, 15, 16, 17, 18, 19, 20, 21, 22, 23, 24, 25, 26, 27, 28, 29, 30, 31, 32, 33, 34, 35, 36, 37, 38, 39, 40, 41, 42, 43, 44, 45, 46, 47, 48, 49, 50, 51, 52, 53, 54, 55, 56, 57, 58, 59] [59, 58, 57, 56, 55, 54, 53, 52, 51, 50, 49, 48, 47, 46, 45, 44, 43, 42, 41, 40, 39, 38, 37, 36, 35, 34, 33, 32, 31, 30, 29, 28, 27, 26, 25, 24, 23, 22, 21, 20, 19, 18, 17, 16, 15, 14, 13, 12, 11, 10, 9, 8, 7, 6, 5, 4, 3, 2, 1, 0] [(86, undef), (85, undef), (84, undef), (83, undef), (82, undef), (81, undef), (80, undef), (79, .bool (true)), (78, .bool (true)), (77, undef), (76, undef), (75, undef), (74, undef), (73, undef), (72, undef), (71, undef), (70, undef), (69, undef), (68, .bool (true)), (67, .bool (true)), (66, undef), (65, undef), (64, undef), (63, undef), (62, undef), (61, undef), (60, undef), (59, undef), (58, undef), (57, undef), (56, undef), (55, undef), (54, undef), (53, undef), (52, undef), (51, undef), (50, undef), (49, undef), (48, undef), (47, .bool (true)), (46, .bool (true)), (45, undef), (44, undef), (43, undef), (42, undef), (41, undef), (40, undef), (39, undef), (38, undef), (37, undef), (36, undef), (35, undef), (34, undef)] (by kernel_rfl) (qT (qT (qT (qB (qT (qL (qB (qT (qT qZ))))))))) (by kernel_rfl) ?_
            refine wH_done (by kernel_rfl) ?_
            refine eX_tail ?_
            refine wS_pure 3 [(89, .bool (true)), (88, undef), (87, undef)] (by kernel_rfl) ?_
            refine wS_end (by rfl) ?_
            refine eX_then ?_
            refine cW_prune [(0, .int .i64 (p0)), (1, .slice A1 (l1).length cap1), (5, .slice (some ⟨b9, 0, none⟩) (l409).length (Int.toNat (wr ((wr (2 * p0)) - 1)))), (6, .int .i64 (x408)), (89, .bool (true))] (by kernel_rfl) (by kernel_rfl) (fun a511 => ?_)
            refine cW_cond_t (by kernel_rfl) ?_
            refine cW_seq ?_
            refine cW_region ?_
            refine wS_pure 1 [(4, .bool (false))] (by kernel_rfl) ?_
            refine wS_end (by rfl) ?_
            refine eX_then ?_
            refine cW_ret ?_
            refine eX_then_ret ?_
            refine eX_block_ret ?_
            refine eX_then_ret ?_
            have hq : (some (Ctl.out (Sum.inr false)) : Option (Ctl (Int × (List (Bool))) (Sum (Unit) ((Bool))))) = some _ := hm
            replace hq := someE hq
            subst hq
            refine eX_outR hx418 (fun hr => ?_)
            subst hr
            refine eX_block_ret ?_
            refine eX_then_ret ?_
            refine eX_then_ret ?_
            have hq : (some false : Option ((Bool))) = some _ := hm415
            replace hq := someE hq
            subst hq
            refine eX_ret (vs := [.bool (false)]) [.tmp 4] (by rfl) ⟨by (show lkE _ _ _ = _); kernel_rfl, trivial⟩ ?_
            exact ⟨rfl, hB⟩
          · have hm := condF hb510 hm
            rewrite [hb510]
            refine wH_take [7, 8] [8, 7, 6, 5, 4, 3, 2, 1, 0] [(35, .int .i64 (x408)), (34, .slice A1 (l1).length cap1)] (by kernel_rfl) (qT (qT (qT (qB (qT (qL (qB (qT (qT qZ))))))))) (by kernel_rfl) ?_
            obtain ⟨x512, hx513, hm⟩ := bindE hm
            refine wH_idx (i := 9) (d := 36) (T := 44) (A := A1) (n := (l1).length) (cap := cap1) (kd := .i64) (m := x408) (by kernel_rfl) (qT (qT (qT (qB (qT (qL (qB (qT (qT qZ))))))))) (by kernel_rfl) (by kernel_rfl) sl44 (F411.is hx513) ?_
            obtain ⟨A514, cap515, hc517, F516⟩ := SlR.row Z500 hx513
            have F518 := F516.chg hS Dj.nil
            refine wH_load1 (i := 10) (d := 37) (T := 68) (ad := (elA A1 1 (x408) 0)) (v := .slice A514 (x512).length cap515) (by kernel_rfl) (qT (qT (qT (qB (qT (qL (qB (qT (qT qZ))))))))) (by kernel_rfl) (by kernel_rfl) vt68 (fun W hW => hW.keep hc517) ?_
            obtain ⟨x520, hx521, hm⟩ := bindE hm
            refine wH_idx (i := 11) (d := 38) (T := 68) (A := A514) (n := (x512).length) (cap := cap515) (kd := .i64) (m := 0) (by kernel_rfl) (qT (qT (qT (qB (qT (qL (qB (qT (qT qZ))))))))) (by kernel_rfl) (by kernel_rfl) sl68 (F518.is hx521) ?_
            refine wH_load1 (i := 12) (d := 39) (T := 2) (ad := (elA A514 1 (0) 0)) (v := .int .i64 (x520)) (by kernel_rfl) (qT (qT (qT (qB (qT (qL (qB (qT (qT qZ))))))))) (by kernel_rfl) (by kernel_rfl) vt2 (fun W hW => Sl.cell (F516.chg hW Dj.nil) hx521 0 (by rfl)) ?_
            refine wH_take [13, 14, 15, 16] [16, 15, 14, 13, 12, 11, 10, 9, 8, 7, 6, 5, 4, 3, 2, 1, 0] [(43, .int .i64 (wr ((wr (p0 + x408)) - 1))), (42, .int .i64 (wr (p0 + x408))), (41, .int .i64 (x408)), (40, .int .i64 (p0))] (by kernel_rfl) (qT (qT (qT (qB (qT (qL (qB (qT (qT qZ))))))))) (by kernel_rfl) ?_
            refine wH_all [17] (by rfl) (by kernel_rfl) (by simp) ⟨⟨by kernel_rfl, ?_⟩, trivial⟩
            obtain ⟨y522, hy523, hm⟩ := bindE hm
            refine wS_calls (d := 44) (f := 88) (vs := [.int .i64 (x520), .int .i64 (0), .int .i64 (wr ((wr (p0 + x408)) - 1))]) (by kernel_rfl) ent88 (c_spec_l00In hy523) ?_
            rintro _ w524 ⟨rfl, hc525⟩
            replace F411 := F411.chg hc525 Dj.nil
            replace F412 := F412.chg hc525 Dj.nil
            replace F508 := F508.chg hc525 Dj.nil
            replace F518 := F518.chg hc525 Dj.nil
            replace hB := hB.inS hc525 inNil
            have hSz := hS
            replace hS := hS.inS hc525 inNil
            replace hZ := Nat.le_trans hZ hc525.size
            refine ⟨.bool (y522), rfl, ?_⟩
            refine wS_end (by kernel_rfl) ?_
            refine eX_KH hS ?_
            refine wH_take [18, 19, 20] [20, 19, 18, 17, 16, 15, 14, 13, 12, 11, 10, 9, 8, 7, 6, 5, 4, 3, 2, 1, 0] [(47, .bool (!y522)), (46, .bool (!y522)), (45, .bool (!y522))] (by kernel_rfl) (qT (qT (qT (qB (qT (qL (qB (qT (qT qZ))))))))) (by kernel_rfl) ?_
            refine wH_bool (!y522) (fun hb526 => ?_) (fun hb526 => ?_)
            · have hm := condT hb526 hm
              rewrite [hb526]
              refine wH_take [21, 22, 23, 24, 25, 26, 27, 28, 29, 30, 31, 32, 33, 34, 35, 36, 37, 38, 39, 40, 41, 42, 43, 44, 45, 46, 47, 48, 49, 50, 51, 52, 53, 54, 55, 56, 57, 58, 59] [59, 58, 57, 56, 55, 54, 53, 52, 51, 50, 49, 48, 47, 46, 45, 44, 43, 42, 41, 40, 39, 38, 37, 36, 35, 34, 33, 32, 31, 30, 29, 28, 27, 26, 25, 24, 23, 22, 21, 20, 19, 18, 17, 16, 15, 14, 13, 12, 11, 10, 9, 8, 7, 6, 5, 4, 3, 2, 1, 0] [(86, undef), (85, undef), (84, undef), (83, undef), (82, undef), (81, undef), (80, undef), (79, .bool (true)), (78, .bool (true)), (77, undef), (76, undef), (75, undef), (74, undef), (73, undef), (72, undef), (71, undef), (70, undef), (69, undef), (68, .bool (true)), (67, .bool (true)), (66, undef), (65, undef), (64, undef), (63, undef), (62, undef), (61, undef), (60, undef), (59, undef), (58, undef), (57, undef), (56, undef), (55, undef), (54, undef), (53, undef), (52, undef), (51, undef), (50, undef), (49, undef), (48, undef)] (by kernel_rfl) (qT (qT (qT (qB (qT (qL (qB (qT (qT qZ))))))))) (by kernel_rfl) ?_
              refine wH_done (by kernel_rfl) ?_
              refine eX_tail ?_
              refine wS_pure 3 [(89, .bool (true)), (88, undef), (87, undef)] (by kernel_rfl) ?_
              refine wS_end (by rfl) ?_
              refine eX_then ?_
              refine cW_prune [(0, .int .i64 (p0)), (1, .slice A1 (l1).length cap1), (5, .slice (some ⟨b9, 0, none⟩) (l409).length (Int.toNat (wr ((wr (2 * p0)) - 1)))), (6, .int .i64 (x408)), (89, .bool (true))] (by kernel_rfl) (by kernel_rfl) (fun a527 => ?_)
              refine cW_cond_t (by kernel_rfl) ?_
              refine cW_seq ?_
              refine cW_region ?_
              refine wS_pure 1 [(4, .bool (false))] (by kernel_rfl) ?_
              refine wS_end (by rfl) ?_
              refine eX_then ?_
              refine cW_ret ?_
              refine eX_then_ret ?_
              refine eX_block_ret ?_
              refine eX_then_ret ?_
              have hq : (some (Ctl.out (Sum.inr false)) : Option (Ctl (Int × (List (Bool))) (Sum (Unit) ((Bool))))) = some _ := hm
              replace hq := someE hq
              subst hq
              refine eX_outR hx418 (fun hr => ?_)
              subst hr
              refine eX_block_ret ?_
              refine eX_then_ret ?_
              refine eX_then_ret ?_
              have hq : (some false : Option ((Bool))) = some _ := hm415
              replace hq := someE hq
              subst hq
              refine eX_ret (vs := [.bool (false)]) [.tmp 4] (by rfl) ⟨by (show lkE _ _ _ = _); kernel_rfl, trivial⟩ ?_
              exact ⟨rfl, hB⟩
            · have hm := condF hb526 hm
              rewrite [hb526]
              refine wH_take [21, 22] [22, 21, 20, 19, 18, 17, 16, 15, 14, 13, 12, 11, 10, 9, 8, 7, 6, 5, 4, 3, 2, 1, 0] [(49, .int .i64 (x408)), (48, .slice A1 (l1).length cap1)] (by kernel_rfl) (qT (qT (qT (qB (qT (qL (qB (qT (qT qZ))))))))) (by kernel_rfl) ?_
              obtain ⟨x528, hx529, hm⟩ := bindE hm
              refine wH_idx (i := 23) (d := 50) (T := 44) (A := A1) (n := (l1).length) (cap := cap1) (kd := .i64) (m := x408) (by kernel_rfl) (qT (qT (qT (qB (qT (qL (qB (qT (qT qZ))))))))) (by kernel_rfl) (by kernel_rfl) sl44 (F411.is hx529) ?_
              obtain ⟨A530, cap531, hc533, F532⟩ := SlR.row Z500 hx529
              have F534 := F532.chg hS Dj.nil
              refine wH_load1 (i := 24) (d := 51) (T := 68) (ad := (elA A1 1 (x408) 0)) (v := .slice A530 (x528).length cap531) (by kernel_rfl) (qT (qT (qT (qB (qT (qL (qB (qT (qT qZ))))))))) (by kernel_rfl) (by kernel_rfl) vt68 (fun W hW => hW.keep hc533) ?_
              obtain ⟨x536, hx537, hm⟩ := bindE hm
              refine wH_idx (i := 25) (d := 52) (T := 68) (A := A530) (n := (x528).length) (cap := cap531) (kd := .i64) (m := 1) (by kernel_rfl) (qT (qT (qT (qB (qT (qL (qB (qT (qT qZ))))))))) (by kernel_rfl) (by kernel_rfl) sl68 (F534.is hx537) ?_
              refine wH_load1 (i := 26) (d := 53) (T := 2) (ad := (elA A530 1 (1) 0)) (v := .int .i64 (x536)) (by kernel_rfl) (qT (qT (qT (qB (qT (qL (qB (qT (qT qZ))))))))) (by kernel_rfl) (by kernel_rfl) vt2 (fun W hW => Sl.cell (F532.chg hW Dj.nil) hx537 0 (by rfl)) ?_
              refine wH_take [27, 28] [28, 27, 26, 25, 24, 23, 22, 21, 20, 19, 18, 17, 16, 15, 14, 13, 12, 11, 10, 9, 8, 7, 6, 5, 4, 3, 2, 1, 0] [(55, .int .i64 (x408)), (54, .slice A1 (l1).length cap1)] (by kernel_rfl) (qT (qT (qT (qB (qT (qL (qB (qT (qT qZ))))))))) (by kernel_rfl) ?_
              obtain ⟨x538, hx539, hm⟩ := bindE hm
              refine wH_idx (i := 29) (d := 56) (T := 44) (A := A1) (n := (l1).length) (cap := cap1) (kd := .i64) (m := x408) (by kernel_rfl) (qT (qT (qT (qB (qT (qL (qB (qT (qT qZ))))))))) (by kernel_rfl) (by kernel_rfl) sl44 (F411.is hx539) ?_
              obtain ⟨A540, cap541, hc543, F542⟩ := SlR.row Z500 hx539
              have F544 := F542.chg hS Dj.nil
              refine wH_load1 (i := 30) (d := 57) (T := 68) (ad := (elA A1 1 (x408) 0)) (v := .slice A540 (x538).length cap541) (by kernel_rfl) (qT (qT (qT (qB (qT (qL (qB (qT (qT qZ))))))))) (by kernel_rfl) (by kernel_rfl) vt68 (fun W hW => hW.keep hc543) ?_
              obtain ⟨x546, hx547, hm⟩ := bindE hm
              refine wH_idx (i := 31) (d := 58) (T := 68) (A := A540) (n := (x538).length) (cap := cap541) (kd := .i64) (m := 0) (by kernel_rfl) (qT (qT (qT (qB (qT (qL (qB (qT (qT qZ))))))))) (by kernel_rfl) (by kernel_rfl) sl68 (F544.is hx547) ?_
              refine wH_load1 (i := 32) (d := 59) (T := 2) (ad := (elA A540 1 (0) 0)) (v := .int .i64 (x546)) (by kernel_rfl) (qT (qT (qT (qB (qT (qL (qB (qT (qT qZ))))))))) (by kernel_rfl) (by kernel_rfl) vt2 (fun W hW => Sl.cell (F542.chg hW Dj.nil) hx547 0 (by rfl)) ?_
              refine wH_take [33, 34, 35, 36, 37] [37, 36, 35, 34, 33, 32, 31, 30, 29, 28, 27, 26, 25, 24, 23, 22, 21, 20, 19, 18, 17, 16, 15, 14, 13, 12, 11, 10, 9, 8, 7, 6, 5, 4, 3, 2, 1, 0] [(64, .int .i64 (wr ((wr (p0 + x408)) - 1))), (63, .int .i64 (wr (p0 + x408))), (62, .int .i64 (x408)), (61, .int .i64 (p0)), (60, .int .i64 (wr (x546 + 1)))] (by kernel_rfl) (qT (qT (qT (qB (qT (qL (qB (qT (qT qZ))))))))) (by kernel_rfl) ?_
              refine wH_all [38] (by rfl) (by kernel_rfl) (by simp) ⟨⟨by kernel_rfl, ?_⟩, trivial⟩
              obtain ⟨y548, hy549, hm⟩ := bindE hm
              refine wS_calls (d := 65) (f := 88) (vs := [.int .i64 (x536), .int .i64 (wr (x546 + 1)), .int .i64 (wr ((wr (p0 + x408)) - 1))]) (by kernel_rfl) ent88 (c_spec_l00In hy549) ?_
              rintro _ w550 ⟨rfl, hc551⟩
              replace F411 := F411.chg hc551 Dj.nil
              replace F412 := F412.chg hc551 Dj.nil
              replace F508 := F508.chg hc551 Dj.nil
              replace F518 := F518.chg hc551 Dj.nil
              replace F534 := F534.chg hc551 Dj.nil
              replace F544 := F544.chg hc551 Dj.nil
              replace hB := hB.inS hc551 inNil
              have hSz := hS
              replace hS := hS.inS hc551 inNil
              replace hZ := Nat.le_trans hZ hc551.size
              refine ⟨.bool (y548), rfl, ?_⟩
              refine wS_end (by kernel_rfl) ?_
              refine eX_KH hS ?_
              refine wH_take [39, 40, 41] [41, 40, 39, 38, 37, 36, 35, 34, 33, 32, 31, 30, 29, 28, 27, 26, 25, 24, 23, 22, 21, 20, 19, 18, 17, 16, 15, 14, 13, 12, 11, 10, 9, 8, 7, 6, 5, 4, 3, 2, 1, 0] [(68, .bool (!y548)), (67, .bool (!y548)), (66, .bool (!y548))] (by kernel_rfl) (qT (qT (qT (qB (qT (qL (qB (qT (qT qZ))))))))) (by kernel_rfl) ?_
              refine wH_bool (!y548) (fun hb552 => ?_) (fun hb552 => ?_)
              · have hm := condT hb552 hm
                rewrite [hb552]
                refine wH_take [42, 43, 44, 45, 46, 47, 48, 49, 50, 51, 52, 53, 54, 55, 56, 57, 58, 59] [59, 58, 57, 56, 55, 54, 53, 52, 51, 50, 49, 48, 47, 46, 45, 44, 43, 42, 41, 40, 39, 38, 37, 36, 35, 34, 33, 32, 31, 30, 29, 28, 27, 26, 25, 24, 23, 22, 21, 20, 19, 18, 17, 16, 15, 14, 13, 12, 11, 10, 9, 8, 7, 6, 5, 4, 3, 2, 1, 0] [(86, undef), (85, undef), (84, undef), (83, undef), (82, undef), (81, undef), (80, undef), (79, .bool (true)), (78, .bool (true)), (77, undef), (76, undef), (75, undef), (74, undef), (73, undef), (72, undef), (71, undef), (70, undef), (69, undef)] (by kernel_rfl) (qT (qT (qT (qB (qT (qL (qB (qT (qT qZ))))))))) (by kernel_rfl) ?_
                refine wH_done (by kernel_rfl) ?_
                refine eX_tail ?_
                refine wS_pure 3 [(89, .bool (true)), (88, undef), (87, undef)] (by kernel_rfl) ?_
                refine wS_end (by rfl) ?_
                refine eX_then ?_
                refine cW_prune [(0, .int .i64 (p0)), (1, .slice A1 (l1).length cap1), (5, .slice (some ⟨b9, 0, none⟩) (l409).length (Int.toNat (wr ((wr (2 * p0)) - 1)))), (6, .int .i64 (x408)), (89, .bool (true))] (by kernel_rfl) (by kernel_rfl) (fun a553 => ?_)
                refine cW_cond_t (by kernel_rfl) ?_
                refine cW_seq ?_
                refine cW_region ?_
                refine wS_pure 1 [(4, .bool (false))] (by kernel_rfl) ?_
                refine wS_end (by rfl) ?_
                refine eX_then ?_
                refine cW_ret ?_
                refine eX_then_ret ?_
                refine eX_block_ret ?_
                refine eX_then_ret ?_
                have hq : (some (Ctl.out (Sum.inr false)) : Option (Ctl (Int × (List (Bool))) (Sum (Unit) ((Bool))))) = some _ := hm
                replace hq := someE hq
                subst hq
                refine eX_outR hx418 (fun hr => ?_)
                subst hr
                refine eX_block_ret ?_
                refine eX_then_ret ?_
                refine eX_then_ret ?_
                have hq : (some false : Option ((Bool))) = some _ := hm415
                replace hq := someE hq
                subst hq
                refine eX_ret (vs := [.bool (false)]) [.tmp 4] (by rfl) ⟨by (show lkE _ _ _ = _); kernel_rfl, trivial⟩ ?_
                exact ⟨rfl, hB⟩
              · have hm := condF hb552 hm
                rewrite [hb552]
                refine wH_take [42, 43, 44] [44, 43, 42, 41, 40, 39, 38, 37, 36, 35, 34, 33, 32, 31, 30, 29, 28, 27, 26, 25, 24, 23, 22, 21, 20, 19, 18, 17, 16, 15, 14, 13, 12, 11, 10, 9, 8, 7, 6, 5, 4, 3, 2, 1, 0] [(71, .int .i64 (x408)), (70, .slice A1 (l1).length cap1), (69, .slice (some ⟨b9, 0, none⟩) (l409).length (Int.toNat (wr ((wr (2 * p0)) - 1))))] (by kernel_rfl) (qT (qT (qT (qB (qT (qL (qB (qT (qT qZ))))))))) (by kernel_rfl) ?_
                obtain ⟨x554, hx555, hm⟩ := bindE hm
                refine wH_idx (i := 45) (d := 72) (T := 44) (A := A1) (n := (l1).length) (cap := cap1) (kd := .i64) (m := x408) (by kernel_rfl) (qT (qT (qT (qB (qT (qL (qB (qT (qT qZ))))))))) (by kernel_rfl) (by kernel_rfl) sl44 (F411.is hx555) ?_
                obtain ⟨A556, cap557, hc559, F558⟩ := SlR.row Z500 hx555
                have F560 := F558.chg hS Dj.nil
                refine wH_load1 (i := 46) (d := 73) (T := 68) (ad := (elA A1 1 (x408) 0)) (v := .slice A556 (x554).length cap557) (by kernel_rfl) (qT (qT (qT (qB (qT (qL (qB (qT (qT qZ))))))))) (by kernel_rfl) (by kernel_rfl) vt68 (fun W hW => hW.keep hc559) ?_
                obtain ⟨x562, hx563, hm⟩ := bindE hm
                refine wH_idx (i := 47) (d := 74) (T := 68) (A := A556) (n := (x554).length) (cap := cap557) (kd := .i64) (m := 0) (by kernel_rfl) (qT (qT (qT (qB (qT (qL (qB (qT (qT qZ))))))))) (by kernel_rfl) (by kernel_rfl) sl68 (F560.is hx563) ?_
                refine wH_load1 (i := 48) (d := 75) (T := 2) (ad := (elA A556 1 (0) 0)) (v := .int .i64 (x562)) (by kernel_rfl) (qT (qT (qT (qB (qT (qL (qB (qT (qT qZ))))))))) (by kernel_rfl) (by kernel_rfl) vt2 (fun W hW => Sl.cell (F558.chg hW Dj.nil) hx563 0 (by rfl)) ?_
                obtain ⟨x564, hx565, hm⟩ := bindE hm
                refine wH_idx (i := 49) (d := 76) (T := 130) (A := (some ⟨b9, 0, none⟩)) (n := (l409).length) (cap := (Int.toNat (wr ((wr (2 * p0)) - 1)))) (kd := .i64) (m := x562) (by kernel_rfl) (qT (qT (qT (qB (qT (qL (qB (qT (qT qZ))))))))) (by kernel_rfl) (by kernel_rfl) sl130 ((F412.sl encB_ok).is hx565) ?_
                refine wH_load1 (i := 50) (d := 77) (T := 4) (ad := (elA (some ⟨b9, 0, none⟩) 1 (x562) 0)) (v := .bool (x564)) (by kernel_rfl) (qT (qT (qT (qB (qT (qL (qB (qT (qT qZ))))))))) (by kernel_rfl) (by kernel_rfl) vt4 (fun W hW => Sl.cell ((Z501.chg hW Dj.nil).sl encB_ok) hx565 0 (by rfl)) ?_
                refine wH_take [51, 52] [52, 51, 50, 49, 48, 47, 46, 45, 44, 43, 42, 41, 40, 39, 38, 37, 36, 35, 34, 33, 32, 31, 30, 29, 28, 27, 26, 25, 24, 23, 22, 21, 20, 19, 18, 17, 16, 15, 14, 13, 12, 11, 10, 9, 8, 7, 6, 5, 4, 3, 2, 1, 0] [(79, .bool (x564)), (78, .bool (x564))] (by kernel_rfl) (qT (qT (qT (qB (qT (qL (qB (qT (qT qZ))))))))) (by kernel_rfl) ?_
                refine wH_bool x564 (fun hb566 => ?_) (fun hb566 => ?_)
                · have hm := condT hb566 hm
                  rewrite [hb566]
                  refine wH_take [53, 54, 55, 56, 57, 58, 59] [59, 58, 57, 56, 55, 54, 53, 52, 51, 50, 49, 48, 47, 46, 45, 44, 43, 42, 41, 40, 39, 38, 37, 36, 35, 34, 33, 32, 31, 30, 29, 28, 27, 26, 25, 24, 23, 22, 21, 20, 19, 18, 17, 16, 15, 14, 13, 12, 11, 10, 9, 8, 7, 6, 5, 4, 3, 2, 1, 0] [(86, undef), (85, undef), (84, undef), (83, undef), (82, undef), (81, undef), (80, undef)] (by kernel_rfl) (qT (qT (qT (qB (qT (qL (qB (qT (qT qZ))))))))) (by kernel_rfl) ?_
                  refine wH_done (by kernel_rfl) ?_
                  refine eX_tail ?_
                  refine wS_pure 3 [(89, .bool (true)), (88, undef), (87, undef)] (by kernel_rfl) ?_
                  refine wS_end (by rfl) ?_
                  refine eX_then ?_
                  refine cW_prune [(0, .int .i64 (p0)), (1, .slice A1 (l1).length cap1), (5, .slice (some ⟨b9, 0, none⟩) (l409).length (Int.toNat (wr ((wr (2 * p0)) - 1)))), (6, .int .i64 (x408)), (89, .bool (true))] (by kernel_rfl) (by kernel_rfl) (fun a567 => ?_)
                  refine cW_cond_t (by kernel_rfl) ?_
                  refine cW_seq ?_
                  refine cW_region ?_
                  refine wS_pure 1 [(4, .bool (false))] (by kernel_rfl) ?_
                  refine wS_end (by rfl) ?_
                  refine eX_then ?_
                  refine cW_ret ?_
                  refine eX_then_ret ?_
                  refine eX_block_ret ?_
                  refine eX_then_ret ?_
                  have hq : (some (Ctl.out (Sum.inr false)) : Option (Ctl (Int × (List (Bool))) (Sum (Unit) ((Bool))))) = some _ := hm
                  replace hq := someE hq
                  subst hq
                  refine eX_outR hx418 (fun hr => ?_)
                  subst hr
                  refine eX_block_ret ?_
                  refine eX_then_ret ?_
                  refine eX_then_ret ?_
                  have hq : (some false : Option ((Bool))) = some _ := hm415
                  replace hq := someE hq
                  subst hq
                  refine eX_ret (vs := [.bool (false)]) [.tmp 4] (by rfl) ⟨by (show lkE _ _ _ = _); kernel_rfl, trivial⟩ ?_
                  exact ⟨rfl, hB⟩
                · have hm := condF hb566 hm
                  rewrite [hb566]
                  refine wH_take [53, 54, 55] [55, 54, 53, 52, 51, 50, 49, 48, 47, 46, 45, 44, 43, 42, 41, 40, 39, 38, 37, 36, 35, 34, 33, 32, 31, 30, 29, 28, 27, 26, 25, 24, 23, 22, 21, 20, 19, 18, 17, 16, 15, 14, 13, 12, 11, 10, 9, 8, 7, 6, 5, 4, 3, 2, 1, 0] [(82, .int .i64 (x408)), (81, .slice A1 (l1).length cap1), (80, .slice (some ⟨b9, 0, none⟩) (l409).length (Int.toNat (wr ((wr (2 * p0)) - 1))))] (by kernel_rfl) (qT (qT (qT (qB (qT (qL (qB (qT (qT qZ))))))))) (by kernel_rfl) ?_
                  obtain ⟨x568, hx569, hm⟩ := bindE hm
                  refine wH_idx (i := 56) (d := 83) (T := 44) (A := A1) (n := (l1).length) (cap := cap1) (kd := .i64) (m := x408) (by kernel_rfl) (qT (qT (qT (qB (qT (qL (qB (qT (qT qZ))))))))) (by kernel_rfl) (by kernel_rfl) sl44 (F411.is hx569) ?_
                  obtain ⟨A570, cap571, hc573, F572⟩ := SlR.row Z500 hx569
                  have F574 := F572.chg hS Dj.nil
                  refine wH_load1 (i := 57) (d := 84) (T := 68) (ad := (elA A1 1 (x408) 0)) (v := .slice A570 (x568).length cap571) (by kernel_rfl) (qT (qT (qT (qB (qT (qL (qB (qT (qT qZ))))))))) (by kernel_rfl) (by kernel_rfl) vt68 (fun W hW => hW.keep hc573) ?_
                  obtain ⟨x576, hx577, hm⟩ := bindE hm
                  refine wH_idx (i := 58) (d := 85) (T := 68) (A := A570) (n := (x568).length) (cap := cap571) (kd := .i64) (m := 1) (by kernel_rfl) (qT (qT (qT (qB (qT (qL (qB (qT (qT qZ))))))))) (by kernel_rfl) (by kernel_rfl) sl68 (F574.is hx577) ?_
                  refine wH_load1 (i := 59) (d := 86) (T := 2) (ad := (elA A570 1 (1) 0)) (v := .int .i64 (x576)) (by kernel_rfl) (qT (qT (qT (qB (qT (qL (qB (qT (qT qZ))))))))) (by kernel_rfl) (by kernel_rfl) vt2 (fun W hW => Sl.cell (F572.chg hW Dj.nil) hx577 0 (by rfl)) ?_
                  refine wH_done (by kernel_rfl) ?_
                  refine eX_tail ?_
                  obtain ⟨x578, hx579, hm⟩ := bindE hm
                  refine wS_idx (d := 87) (T := 130) (A := (some ⟨b9, 0, none⟩)) (n := (l409).length) (cap := (Int.toNat (wr ((wr (2 * p0)) - 1)))) (kd := .i64) (m := x576) (by kernel_rfl) sl130 ((F412.sl encB_ok).is hx579) ?_
                  refine wS_load1 (d := 88) (T := 4) (ad := (elA (some ⟨b9, 0, none⟩) 1 (x576) 0)) (v := .bool (x578)) (by kernel_rfl) vt4 (Sl.cell (F412.sl encB_ok) hx579 0 (by rfl)) ?_
                  refine wS_pure 1 [(89, .bool (x578))] (by kernel_rfl) ?_
                  refine wS_end (by rfl) ?_
                  refine eX_then ?_
                  refine cW_prune [(0, .int .i64 (p0)), (1, .slice A1 (l1).length cap1), (5, .slice (some ⟨b9, 0, none⟩) (l409).length (Int.toNat (wr ((wr (2 * p0)) - 1)))), (6, .int .i64 (x408)), (89, .bool (x578))] (by kernel_rfl) (by kernel_rfl) (fun a580 => ?_)
                  refine cW_cond (t := x578) (by kernel_rfl) (fun hb581 => ?_) (fun hb581 => ?_)
                  · have hm := condT hb581 hm
                    refine cW_seq ?_
                    refine cW_region ?_
                    refine wS_pure 1 [(4, .bool (false))] (by kernel_rfl) ?_
                    refine wS_end (by rfl) ?_
                    refine eX_then ?_
                    refine cW_ret ?_
                    refine eX_then_ret ?_
                    refine eX_block_ret ?_
                    refine eX_then_ret ?_
                    have hq : (some (Ctl.out (Sum.inr false)) : Option (Ctl (Int × (List (Bool))) (Sum (Unit) ((Bool))))) = some _ := hm
                    replace hq := someE hq
                    subst hq
                    refine eX_outR hx418 (fun hr => ?_)
                    subst hr
                    refine eX_block_ret ?_
                    refine eX_then_ret ?_
                    refine eX_then_ret ?_
                    have hq : (some false : Option ((Bool))) = some _ := hm415
                    replace hq := someE hq
                    subst hq
                    refine eX_ret (vs := [.bool (false)]) [.tmp 4] (by rfl) ⟨by (show lkE _ _ _ = _); kernel_rfl, trivial⟩ ?_
                    exact ⟨rfl, hB⟩
                  · have hm := condF hb581 hm
                    refine cW_skip ?_
                    refine eX_then ?_
                    refine cW_seq ?_
                    refine cW_region ?_
                    refine wS_pure 3 [(92, .int .i64 (x408)), (91, .slice A1 (l1).length cap1), (90, .slice (some ⟨b9, 0, none⟩) (l409).length (Int.toNat (wr ((wr (2 * p0)) - 1))))] (by kernel_rfl) ?_
                    obtain ⟨x582, hx583, hm⟩ := bindE hm
                    refine wS_idx (d := 93) (T := 44) (A := A1) (n := (l1).length) (cap := cap1) (kd := .i64) (m := x408) (by kernel_rfl) sl44 (F411.is hx583) ?_
                    obtain ⟨A584, cap585, hc587, F586⟩ := SlR.row F411 hx583
                    refine wS_load1 (d := 94) (T := 68) (ad := (elA A1 1 (x408) 0)) (v := .slice A584 (x582).length cap585) (by kernel_rfl) vt68 hc587 ?_
                    obtain ⟨x589, hx590, hm⟩ := bindE hm
                    refine wS_idx (d := 95) (T := 68) (A := A584) (n := (x582).length) (cap := cap585) (kd := .i64) (m := 0) (by kernel_rfl) sl68 (F586.is hx590) ?_
                    refine wS_load1 (d := 96) (T := 2) (ad := (elA A584 1 (0) 0)) (v := .int .i64 (x589)) (by kernel_rfl) vt2 (Sl.cell F586 hx590 0 (by rfl)) ?_
                    obtain ⟨x591, hx592, hm⟩ := bindE hm
                    refine wS_idx (d := 97) (T := 130) (A := (some ⟨b9, 0, none⟩)) (n := (l409).length) (cap := (Int.toNat (wr ((wr (2 * p0)) - 1)))) (kd := .i64) (m := x589) (by kernel_rfl) sl130 ((F412.sl encB_ok).is hx592) ?_
                    refine wS_storeEl (x := x591) true (T := 4) (U := 4) (cap := (Int.toNat (wr ((wr (2 * p0)) - 1)))) (j := 0) (A := (some ⟨b9, 0, none⟩)) (v := .bool (true)) (vs := [.bool (true)]) (m := x589) (by kernel_rfl) (by rfl) sz4 (by rfl) encB_ok F412 hx592 (by simp only [List.length_cons, List.length_nil]; omega) (by rfl) ?_
                    intro w593 F594 hc595
                    replace F411 := F411.chg hc595 (Dj.of L1 G11)
                    replace F508 := F508.chg hc595 (Dj.of L1 G11)
                    replace F518 := F518.chg hc595 (Dj.of L1 G11)
                    replace F534 := F534.chg hc595 (Dj.of L1 G11)
                    replace F544 := F544.chg hc595 (Dj.of L1 G11)
                    replace F560 := F560.chg hc595 (Dj.of L1 G11)
                    replace F574 := F574.chg hc595 (Dj.of L1 G11)
                    replace F586 := F586.chg hc595 (Dj.of L1 G11)
                    replace hB := hB.inS hc595 (inLow G11)
                    replace hZ := Nat.le_trans hZ hc595.size
                    clear F412
                    rewrite [show (l409).length = (l409.set (Int.toNat x589) true).length from (List.length_set ..).symm]
                    refine wS_end (by rfl) ?_
                    refine eX_then ?_
                    refine cW_region ?_
                    refine wS_pure 3 [(100, .int .i64 (x408)), (99, .slice A1 (l1).length cap1), (98, .slice (some ⟨b9, 0, none⟩) (l409.set (Int.toNat x589) true).length (Int.toNat (wr ((wr (2 * p0)) - 1))))] (by kernel_rfl) ?_
                    obtain ⟨x596, hx597, hm⟩ := bindE hm
                    refine wS_idx (d := 101) (T := 44) (A := A1) (n := (l1).length) (cap := cap1) (kd := .i64) (m := x408) (by kernel_rfl) sl44 (F411.is hx597) ?_
                    obtain ⟨A598, cap599, hc601, F600⟩ := SlR.row F411 hx597
                    refine wS_load1 (d := 102) (T := 68) (ad := (elA A1 1 (x408) 0)) (v := .slice A598 (x596).length cap599) (by kernel_rfl) vt68 hc601 ?_
                    obtain ⟨x603, hx604, hm⟩ := bindE hm
                    refine wS_idx (d := 103) (T := 68) (A := A598) (n := (x596).length) (cap := cap599) (kd := .i64) (m := 1) (by kernel_rfl) sl68 (F600.is hx604) ?_
                    refine wS_load1 (d := 104) (T := 2) (ad := (elA A598 1 (1) 0)) (v := .int .i64 (x603)) (by kernel_rfl) vt2 (Sl.cell F600 hx604 0 (by rfl)) ?_
                    obtain ⟨x605, hx606, hm⟩ := bindE hm
                    refine wS_idx (d := 105) (T := 130) (A := (some ⟨b9, 0, none⟩)) (n := (l409.set (Int.toNat x589) true).length) (cap := (Int.toNat (wr ((wr (2 * p0)) - 1)))) (kd := .i64) (m := x603) (by kernel_rfl) sl130 ((F594.sl encB_ok).is hx606) ?_
                    refine wS_storeEl (x := x605) true (T := 4) (U := 4) (cap := (Int.toNat (wr ((wr (2 * p0)) - 1)))) (j := 0) (A := (some ⟨b9, 0, none⟩)) (v := .bool (true)) (vs := [.bool (true)]) (m := x603) (by kernel_rfl) (by rfl) sz4 (by rfl) encB_ok F594 hx606 (by simp only [List.length_cons, List.length_nil]; omega) (by rfl) ?_
                    intro w607 F608 hc609
                    replace F411 := F411.chg hc609 (Dj.of L1 G11)
                    replace F508 := F508.chg hc609 (Dj.of L1 G11)
                    replace F518 := F518.chg hc609 (Dj.of L1 G11)
                    replace F534 := F534.chg hc609 (Dj.of L1 G11)
                    replace F544 := F544.chg hc609 (Dj.of L1 G11)
                    replace F560 := F560.chg hc609 (Dj.of L1 G11)
                    replace F574 := F574.chg hc609 (Dj.of L1 G11)
                    replace F586 := F586.chg hc609 (Dj.of L1 G11)
                    replace F600 := F600.chg hc609 (Dj.of L1 G11)
                    replace hB := hB.inS hc609 (inLow G11)
                    replace hZ := Nat.le_trans hZ hc609.size
                    clear F594
                    rewrite [show (l409.set (Int.toNat x589) true).length = ((l409.set (Int.toNat x589) true).set (Int.toNat x603) true).length from (List.length_set ..).symm]
                    refine wS_end (by rfl) ?_
                    refine eX_block ?_
                    refine eX_then ?_
                    refine cW_region ?_
                    refine wS_pure 3 [(6, .int .i64 (wr (x408 + 1))), (26, .int .i64 (wr (x408 + 1))), (25, .int .i64 (x408))] (by kernel_rfl) ?_
                    refine wS_end (by rfl) ?_
                    have hq : (some (Ctl.next ((wr (x408 + 1), (l409.set (Int.toNat x589) true).set (Int.toNat x603) true))) : Option (Ctl (Int × (List (Bool))) (Sum (Unit) ((Bool))))) = some _ := hm
                    replace hq := someE hq
                    subst hq
                    exact eX_next hx418 (fun hst => ⟨wr (x408 + 1), (l409.set (Int.toNat x589) true).set (Int.toNat x603) true, rfl, Fr.of hst (by kernel_rfl), F411, F608, hB, hZ⟩)
        · have hm := condF hb419 hm
          refine cW_exit ?_
          refine eX_then_exit ?_
          have hq : (some (Ctl.out (Sum.inl (()))) : Option (Ctl (Int × (List (Bool))) (Sum (Unit) ((Bool))))) = some _ := hm
          replace hq := someE hq
          subst hq
          refine eX_outX hx418 (fun hr610 => ?_)
          replace hr610 := hr610.symm
          subst hr610
          refine eX_block_hit ?_
          exact eX_J (fun hst => ⟨rfl, Fr.of hst (by kernel_rfl), hB, hZ⟩)
      · rintro a' w405 ⟨hJ, hF406, hB, hZ⟩
        subst hJ
        refine Fr.goX hF406 (by kernel_rfl) ?_
        refine eX_then ?_
        refine cW_seq ?_
        refine cW_region ?_
        refine wS_pure 1 [(4, .bool (true))] (by kernel_rfl) ?_
        refine wS_end (by rfl) ?_
        refine eX_then ?_
        refine cW_ret ?_
        have hq : (some true : Option ((Bool))) = some _ := hm
        replace hq := someE hq
        subst hq
        refine eX_ret (vs := [.bool (true)]) [.tmp 4] (by rfl) ⟨by (show lkE _ _ _ = _); kernel_rfl, trivial⟩ ?_
        exact ⟨rfl, hB⟩

noncomputable def m_spec_IsJoins (p0 : Int) (l1 : List (List (Int))) : Option ((Bool)) :=
  Option.bind (m_spec_l06Joins p0 l1) fun y2 => some y2
set_option maxRecDepth 100000 in
/-- spec.IsJoins -/
theorem c_spec_IsJoins {w0 : World} {p0 : Int} {l1 : List (List (Int))} {A1 : Option Addr} {cap1 : Nat} {fp1 : List Nat} {r : (Bool)} (hm : m_spec_IsJoins p0 l1 = some r) (F1 : SlR 1 encI w0 fp1 A1 l1) :
    Calls Try.prog 37 #[.int .i64 (p0), .slice A1 (l1).length cap1] w0 fun e w' => e = .returned (.bool (r)) ∧ Chg [] w0 w' := by
  have L1 := F1.low
  have hB : Chg [] w0 w0 := Chg.refl _ _
  have hZ := Nat.le_refl w0.heap.size
  unfold m_spec_IsJoins at hm
  refine enterE (N := 8) Try.func37 (by rfl) Try.ntmps37 (by simp) [(0, .int .i64 (p0)), (1, .slice A1 (l1).length cap1)] (by rfl) (by kernel_rfl) (fun a => ?_)
  refine cW_seq ?_
  refine cW_region ?_
  refine wS_pure 1 [(4, .bool (false))] (by kernel_rfl) ?_
  refine wS_end (by rfl) ?_
  refine eX_then ?_
  refine cW_seq ?_
  refine cW_region ?_
  refine wS_pure 2 [(6, .slice A1 (l1).length cap1), (5, .int .i64 (p0))] (by kernel_rfl) ?_
  obtain ⟨y2, hy3, hm⟩ := bindE hm
  refine wS_calls (d := 7) (f := 94) (vs := [.int .i64 (p0), .slice A1 (l1).length cap1]) (by kernel_rfl) ent94 (c_spec_l06Joins hy3 F1) ?_
  rintro _ w4 ⟨rfl, hc5⟩
  replace F1 := F1.chg hc5 Dj.nil
  replace hB := hB.inS hc5 inNil
  replace hZ := Nat.le_trans hZ hc5.size
  refine ⟨.bool (y2), rfl, ?_⟩
  refine wS_pure 1 [(4, .bool (y2))] (by kernel_rfl) ?_
  refine wS_end (by rfl) ?_
  refine eX_then ?_
  refine cW_ret ?_
  have hq : (some y2 : Option ((Bool))) = some _ := hm
  replace hq := someE hq
  subst hq
  refine eX_ret (vs := [.bool (y2)]) [.tmp 4] (by rfl) ⟨by (show lkE _ _ _ = _); kernel_rfl, trivial⟩ ?_
  exact ⟨rfl, hB⟩

def m_laws_eqInt64S_s1 (l0 : List (Int)) (l1 : List (Int)) (s57 : Int) : Option (Ctl (Int) (Sum (Unit) ((Bool)))) :=
  (fun (x50 : Int) => (bif decide (x50 < (((l0).length : Int))) then Option.bind (geti l0 x50) fun x73 => Option.bind (geti l1 x50) fun x75 => (bif x73 != x75 then some (Ctl.out (Sum.inr false)) else some (Ctl.next (wr (x50 + 1)))) else some (Ctl.out (Sum.inl (()))))) s57
noncomputable def m_laws_eqInt64S (l0 : List (Int)) (l1 : List (Int)) : Option ((Bool)) :=
  (bif (((l0).length : Int)) != (((l1).length : Int)) then some false else Option.bind (loopM (m_laws_eqInt64S_s1 l0 l1) 0) fun (r54 : Sum (Unit) ((Bool))) => match r54 with | Sum.inl q80 => (some true) | Sum.inr v79 => some v79)
set_option maxRecDepth 100000 in
/-- laws.eqInt64S -/
theorem c_laws_eqInt64S {w0 : World} {l0 : List (Int)} {A0 : Option Addr} {cap0 : Nat} {fp0 : List Nat} {l1 : List (Int)} {A1 : Option Addr} {cap1 : Nat} {fp1 : List Nat} {r : (Bool)} (hm : m_laws_eqInt64S l0 l1 = some r) (F0 : Sl 1 encI w0 fp0 A0 l0) (F1 : Sl 1 encI w0 fp1 A1 l1) :
    Calls Try.prog 55 #[.slice A0 (l0).length cap0, .slice A1 (l1).length cap1] w0 fun e w' => e = .returned (.bool (r)) ∧ Chg [] w0 w' := by
  have L0 := F0.low
  have L1 := F1.low
  have hB : Chg [] w0 w0 := Chg.refl _ _
  have hZ := Nat.le_refl w0.heap.size
  unfold m_laws_eqInt64S at hm
  refine enterE (N := 26) Try.func55 (by rfl) Try.ntmps55 (by simp) [(0, .slice A0 (l0).length cap0), (1, .slice A1 (l1).length cap1)] (by rfl) (by kernel_rfl) (fun a => ?_)
  refine cW_seq ?_
  refine cW_region ?_
  refine wS_pure 1 [(4, .bool (false))] (by kernel_rfl) ?_
  refine wS_end (by rfl) ?_
  refine eX_then ?_
  refine cW_seq ?_
  refine cW_seq ?_
  refine cW_region ?_
  refine wS_pure 5 [(10, .bool ((((l0).length : Int)) != (((l1).length : Int)))), (9, .int .i64 (((l1).length : Int))), (8, .slice A1 (l1).length cap1), (7, .int .i64 (((l0).length : Int))), (6, .slice A0 (l0).length cap0)] (by kernel_rfl) ?_
  refine wS_end (by rfl) ?_
  refine eX_then ?_
  refine cW_cond (t := (((l0).length : Int)) != (((l1).length : Int))) (by kernel_rfl) (fun hb3 => ?_) (fun hb3 => ?_)
  · have hm := condT hb3 hm
    refine cW_seq ?_
    refine cW_region ?_
    refine wS_pure 1 [(4, .bool (false))] (by kernel_rfl) ?_
    refine wS_end (by rfl) ?_
    refine eX_then ?_
    refine cW_ret ?_
    refine eX_then_ret ?_
    have hq : (some false : Option ((Bool))) = some _ := hm
    replace hq := someE hq
    subst hq
    refine eX_ret (vs := [.bool (false)]) [.tmp 4] (by rfl) ⟨by (show lkE _ _ _ = _); kernel_rfl, trivial⟩ ?_
    exact ⟨rfl, hB⟩
  · have hm := condF hb3 hm
    refine cW_skip ?_
    refine eX_then ?_
    refine cW_seq ?_
    refine cW_seq ?_
    refine cW_region ?_
    refine wS_pure 1 [(5, .int .i64 (0))] (by kernel_rfl) ?_
    refine wS_end (by rfl) ?_
    refine eX_then ?_
    obtain ⟨r54, hr55, hm⟩ := bindE hm
    have hm56 := hm
    refine cW_cut (fun a' w' => Sum.inl (()) = r54 ∧ Fr 26 [] a' ∧ Chg [] w0 w' ∧ w0.heap.size ≤ w'.heap.size) ?_ ?_
    · refine cW_block ?_
      refine cW_loop _ (fun (s57 : Int) a' w' => ∃ x50 : Int, x50 = s57 ∧ Fr 26 [(0, .slice A0 (l0).length cap0), (1, .slice A1 (l1).length cap1), (5, .int .i64 (x50))] a' ∧ Sl 1 encI w' fp0 A0 l0 ∧ Sl 1 encI w' fp1 A1 l1 ∧ Chg [] w0 w' ∧ w0.heap.size ≤ w'.heap.size) hr55 (fun hst => ⟨0, rfl, Fr.of hst (by kernel_rfl), F0, F1, hB, hZ⟩) ?_
      rintro _ c58 a' w49 ⟨x50, rfl, hF51, F52, F53, hB, hZ⟩ hx59
      refine Fr.goOn hF51 (by kernel_rfl) ?_
      have hm := hx59
      unfold m_laws_eqInt64S_s1 at hm
      refine cW_seq ?_
      refine cW_seq ?_
      refine cW_region ?_
      refine wS_pure 4 [(14, .bool (decide (x50 < (((l0).length : Int))))), (13, .int .i64 (((l0).length : Int))), (12, .slice A0 (l0).length cap0), (11, .int .i64 (x50))] (by kernel_rfl) ?_
      refine wS_end (by rfl) ?_
      refine eX_then ?_
      refine cW_cond (t := decide (x50 < (((l0).length : Int)))) (by kernel_rfl) (fun hb60 => ?_) (fun hb60 => ?_)
      · have hm := condT hb60 hm
        refine cW_skip ?_
        refine eX_then ?_
        refine cW_seq ?_
        refine cW_block ?_
        refine cW_seq ?_
        refine cW_drawnTail [] 8 (by kernel_rfl) (by kernel_rfl) (fun w69 hc70 => ?_)
        replace F52 := F52.chg hc70 Dj.nil
        replace F53 := F53.chg hc70 Dj.nil
        replace hB := hB.inS hc70 inNil
        replace hZ := Nat.le_trans hZ hc70.size
        have hS := Chg.refl [] w69
        have Z71 := F52
        have Z72 := F53
        refine wH_take [0, 1] [1, 0] [(18, .int .i64 (x50)), (17, .slice A0 (l0).length cap0)] (by kernel_rfl) (qT (qT (qB (qT (qL (qB (qT (qT qZ)))))))) (by kernel_rfl) ?_
        obtain ⟨x73, hx74, hm⟩ := bindE hm
        refine wH_idx (i := 2) (d := 19) (T := 68) (A := A0) (n := (l0).length) (cap := cap0) (kd := .i64) (m := x50) (by kernel_rfl) (qT (qT (qB (qT (qL (qB (qT (qT qZ)))))))) (by kernel_rfl) (by kernel_rfl) sl68 (F52.is hx74) ?_
        refine wH_load1 (i := 3) (d := 20) (T := 2) (ad := (elA A0 1 (x50) 0)) (v := .int .i64 (x73)) (by kernel_rfl) (qT (qT (qB (qT (qL (qB (qT (qT qZ)))))))) (by kernel_rfl) (by kernel_rfl) vt2 (fun W hW => Sl.cell (Z71.chg hW Dj.nil) hx74 0 (by rfl)) ?_
        refine wH_take [4, 5] [5, 4, 3, 2, 1, 0] [(22, .int .i64 (x50)), (21, .slice A1 (l1).length cap1)] (by kernel_rfl) (qT (qT (qB (qT (qL (qB (qT (qT qZ)))))))) (by kernel_rfl) ?_
        obtain ⟨x75, hx76, hm⟩ := bindE hm
        refine wH_idx (i := 6) (d := 23) (T := 68) (A := A1) (n := (l1).length) (cap := cap1) (kd := .i64) (m := x50) (by kernel_rfl) (qT (qT (qB (qT (qL (qB (qT (qT qZ)))))))) (by kernel_rfl) (by kernel_rfl) sl68 (F53.is hx76) ?_
        refine wH_load1 (i := 7) (d := 24) (T := 2) (ad := (elA A1 1 (x50) 0)) (v := .int .i64 (x75)) (by kernel_rfl) (qT (qT (qB (qT (qL (qB (qT (qT qZ)))))))) (by kernel_rfl) (by kernel_rfl) vt2 (fun W hW => Sl.cell (Z72.chg hW Dj.nil) hx76 0 (by rfl)) ?_
        refine wH_done (by kernel_rfl) ?_
        refine eX_tail ?_
        refine wS_pure 1 [(25, .bool (x73 != x75))] (by kernel_rfl) ?_
        refine wS_end (by rfl) ?_
        refine eX_then ?_
        refine cW_cond (t := x73 != x75) (by kernel_rfl) (fun hb77 => ?_) (fun hb77 => ?_)
        · have hm := condT hb77 hm
          refine cW_seq ?_
          refine cW_region ?_
          refine wS_pure 1 [(4, .bool (false))] (by kernel_rfl) ?_
          refine wS_end (by rfl) ?_
          refine eX_then ?_
          refine cW_ret ?_
          refine eX_block_ret ?_
          refine eX_then_ret ?_
          have hq : (some (Ctl.out (Sum.inr false)) : Option (Ctl (Int) (Sum (Unit) ((Bool))))) = some _ := hm
          replace hq := someE hq
          subst hq
          refine eX_outR hx59 (fun hr => ?_)
          subst hr
          refine eX_block_ret ?_
          refine eX_then_ret ?_
          refine eX_then_ret ?_
          have hq : (some false : Option ((Bool))) = some _ := hm56
          replace hq := someE hq
          subst hq
          refine eX_ret (vs := [.bool (false)]) [.tmp 4] (by rfl) ⟨by (show lkE _ _ _ = _); kernel_rfl, trivial⟩ ?_
          exact ⟨rfl, hB⟩
        · have hm := condF hb77 hm
          refine cW_skip ?_
          refine eX_block ?_
          refine eX_then ?_
          refine cW_region ?_
          refine wS_pure 3 [(5, .int .i64 (wr (x50 + 1))), (16, .int .i64 (wr (x50 + 1))), (15, .int .i64 (x50))] (by kernel_rfl) ?_
          refine wS_end (by rfl) ?_
          have hq : (some (Ctl.next (wr (x50 + 1))) : Option (Ctl (Int) (Sum (Unit) ((Bool))))) = some _ := hm
          replace hq := someE hq
          subst hq
          exact eX_next hx59 (fun hst => ⟨wr (x50 + 1), rfl, Fr.of hst (by kernel_rfl), F52, F53, hB, hZ⟩)
      · have hm := condF hb60 hm
        refine cW_exit ?_
        refine eX_then_exit ?_
        have hq : (some (Ctl.out (Sum.inl (()))) : Option (Ctl (Int) (Sum (Unit) ((Bool))))) = some _ := hm
        replace hq := someE hq
        subst hq
        refine eX_outX hx59 (fun hr78 => ?_)
        replace hr78 := hr78.symm
        subst hr78
        refine eX_block_hit ?_
        exact eX_J (fun hst => ⟨rfl, Fr.of hst (by kernel_rfl), hB, hZ⟩)
    · rintro a' w47 ⟨hJ, hF48, hB, hZ⟩
      subst hJ
      refine Fr.goX hF48 (by kernel_rfl) ?_
      refine eX_then ?_
      refine cW_seq ?_
      refine cW_region ?_
      refine wS_pure 1 [(4, .bool (true))] (by kernel_rfl) ?_
      refine wS_end (by rfl) ?_
      refine eX_then ?_
      refine cW_ret ?_
      have hq : (some true : Option ((Bool))) = some _ := hm
      replace hq := someE hq
      subst hq
      refine eX_ret (vs := [.bool (true)]) [.tmp 4] (by rfl) ⟨by (show lkE _ _ _ = _); kernel_rfl, trivial⟩ ?_
      exact ⟨rfl, hB⟩

noncomputable def m_laws_eqInt64SS_s1 (l0 : List (List (Int))) (l1 : List (List (Int))) (s121 : Int) : Option (Ctl (Int) (Sum (Unit) ((Bool)))) :=
  (fun (x114 : Int) => (bif decide (x114 < (((l0).length : Int))) then Option.bind (geti l0 x114) fun x153 => Option.bind (geti l1 x114) fun x161 => Option.bind (m_laws_eqInt64S x153 x161) fun y169 => (bif !y169 then some (Ctl.out (Sum.inr false)) else some (Ctl.next (wr (x114 + 1)))) else some (Ctl.out (Sum.inl (()))))) s121
noncomputable def m_laws_eqInt64SS (l0 : List (List (Int))) (l1 : List (List (Int))) : Option ((Bool)) :=
  (bif (((l0).length : Int)) != (((l1).length : Int)) then some false else Option.bind (loopM (m_laws_eqInt64SS_s1 l0 l1) 0) fun (r118 : Sum (Unit) ((Bool))) => match r118 with | Sum.inl q176 => (some true) | Sum.inr v175 => some v175)
set_option maxRecDepth 100000 in
/-- laws.eqInt64SS -/
theorem c_laws_eqInt64SS {w0 : World} {l0 : List (List (Int))} {A0 : Option Addr} {cap0 : Nat} {fp0 : List Nat} {l1 : List (List (Int))} {A1 : Option Addr} {cap1 : Nat} {fp1 : List Nat} {r : (Bool)} (hm : m_laws_eqInt64SS l0 l1 = some r) (F0 : SlR 1 encI w0 fp0 A0 l0) (F1 : SlR 1 encI w0 fp1 A1 l1) :
    Calls Try.prog 40 #[.slice A0 (l0).length cap0, .slice A1 (l1).length cap1] w0 fun e w' => e = .returned (.bool (r)) ∧ Chg [] w0 w' := by
  have L0 := F0.low
  have L1 := F1.low
  have hB : Chg [] w0 w0 := Chg.refl _ _
  have hZ := Nat.le_refl w0.heap.size
  unfold m_laws_eqInt64SS at hm
  refine enterE (N := 27) Try.func40 (by rfl) Try.ntmps40 (by simp) [(0, .slice A0 (l0).length cap0), (1, .slice A1 (l1).length cap1)] (by rfl) (by kernel_rfl) (fun a => ?_)
  refine cW_seq ?_
  refine cW_region ?_
  refine wS_pure 1 [(4, .bool (false))] (by kernel_rfl) ?_
  refine wS_end (by rfl) ?_
  refine eX_then ?_
  refine cW_seq ?_
  refine cW_seq ?_
  refine cW_region ?_
  refine wS_pure 5 [(10, .bool ((((l0).length : Int)) != (((l1).length : Int)))), (9, .int .i64 (((l1).length : Int))), (8, .slice A1 (l1).length cap1), (7, .int .i64 (((l0).length : Int))), (6, .slice A0 (l0).length cap0)] (by kernel_rfl) ?_
  refine wS_end (by rfl) ?_
  refine eX_then ?_
  refine cW_cond (t := (((l0).length : Int)) != (((l1).length : Int))) (by kernel_rfl) (fun hb3 => ?_) (fun hb3 => ?_)
  · have hm := condT hb3 hm
    refine cW_seq ?_
    refine cW_region ?_
    refine wS_pure 1 [(4, .bool (false))] (by kernel_rfl) ?_
    refine wS_end (by rfl) ?_
    refine eX_then ?_
    refine cW_ret ?_
    refine eX_then_ret ?_
    have hq : (some false : Option ((Bool))) = some _ := hm
    replace hq := someE hq
    subst hq
    refine eX_ret (vs := [.bool (false)]) [.tmp 4] (by rfl) ⟨by (show lkE _ _ _ = _); kernel_rfl, trivial⟩ ?_
    exact ⟨rfl, hB⟩
  · have hm := condF hb3 hm
    refine cW_skip ?_
    refine eX_then ?_
    refine cW_seq ?_
    refine cW_seq ?_
    refine cW_region ?_
    refine wS_pure 1 [(5, .int .i64 (0))] (by kernel_rfl) ?_
    refine wS_end (by rfl) ?_
    refine eX_then ?_
    obtain ⟨r118, hr119, hm⟩ := bindE hm
    have hm120 := hm
    refine cW_cut (fun a' w' => Sum.inl (()) = r118 ∧ Fr 27 [] a' ∧ Chg [] w0 w' ∧ w0.heap.size ≤ w'.heap.size) ?_ ?_
    · refine cW_block ?_
      refine cW_loop _ (fun (s121 : Int) a' w' => ∃ x114 : Int, x114 = s121 ∧ Fr 27 [(0, .slice A0 (l0).length cap0), (1, .slice A1 (l1).length cap1), (5, .int .i64 (x114))] a' ∧ SlR 1 encI w' fp0 A0 l0 ∧ SlR 1 encI w' fp1 A1 l1 ∧ Chg [] w0 w' ∧ w0.heap.size ≤ w'.heap.size) hr119 (fun hst => ⟨0, rfl, Fr.of hst (by kernel_rfl), F0, F1, hB, hZ⟩) ?_
      rintro _ c122 a' w113 ⟨x114, rfl, hF115, F116, F117, hB, hZ⟩ hx123
      refine Fr.goOn hF115 (by kernel_rfl) ?_
      have hm := hx123
      unfold m_laws_eqInt64SS_s1 at hm
      refine cW_seq ?_
      refine cW_seq ?_
      refine cW_region ?_
      refine wS_pure 4 [(14, .bool (decide (x114 < (((l0).length : Int))))), (13, .int .i64 (((l0).length : Int))), (12, .slice A0 (l0).length cap0), (11, .int .i64 (x114))] (by kernel_rfl) ?_
      refine wS_end (by rfl) ?_
      refine eX_then ?_
      refine cW_cond (t := decide (x114 < (((l0).length : Int)))) (by kernel_rfl) (fun hb124 => ?_) (fun hb124 => ?_)
      · have hm := condT hb124 hm
        refine cW_skip ?_
        refine eX_then ?_
        refine cW_seq ?_
        refine cW_block ?_
        refine cW_seq ?_
        refine cW_drawnTail [] 8 (by kernel_rfl) (by kernel_rfl) (fun w149 hc150 => ?_)
        replace F116 := F116.chg hc150 Dj.nil
        replace F117 := F117.chg hc150 Dj.nil
        replace hB := hB.inS hc150 inNil
        replace hZ := Nat.le_trans hZ hc150.size
        have hS := Chg.refl [] w149
        have Z151 := F116
        have Z152 := F117
        refine wH_take [0, 1] [1, 0] [(18, .int .i64 (x114)), (17, .slice A0 (l0).length cap0)] (by kernel_rfl) (qT (qT (qB (qT (qL (qB (qT (qT qZ)))))))) (by kernel_rfl) ?_
        obtain ⟨x153, hx154, hm⟩ := bindE hm
        refine wH_idx (i := 2) (d := 19) (T := 44) (A := A0) (n := (l0).length) (cap := cap0) (kd := .i64) (m := x114) (by kernel_rfl) (qT (qT (qB (qT (qL (qB (qT (qT qZ)))))))) (by kernel_rfl) (by kernel_rfl) sl44 (F116.is hx154) ?_
        obtain ⟨A155, cap156, hc158, F157⟩ := SlR.row Z151 hx154
        have F159 := F157.chg hS Dj.nil
        refine wH_load1 (i := 3) (d := 20) (T := 68) (ad := (elA A0 1 (x114) 0)) (v := .slice A155 (x153).length cap156) (by kernel_rfl) (qT (qT (qB (qT (qL (qB (qT (qT qZ)))))))) (by kernel_rfl) (by kernel_rfl) vt68 (fun W hW => hW.keep hc158) ?_
        refine wH_take [4, 5] [5, 4, 3, 2, 1, 0] [(22, .int .i64 (x114)), (21, .slice A1 (l1).length cap1)] (by kernel_rfl) (qT (qT (qB (qT (qL (qB (qT (qT qZ)))))))) (by kernel_rfl) ?_
        obtain ⟨x161, hx162, hm⟩ := bindE hm
        refine wH_idx (i := 6) (d := 23) (T := 44) (A := A1) (n := (l1).length) (cap := cap1) (kd := .i64) (m := x114) (by kernel_rfl) (qT (qT (qB (qT (qL (qB (qT (qT qZ)))))))) (by kernel_rfl) (by kernel_rfl) sl44 (F117.is hx162) ?_
        obtain ⟨A163, cap164, hc166, F165⟩ := SlR.row Z152 hx162
        have F167 := F165.chg hS Dj.nil
        refine wH_load1 (i := 7) (d := 24) (T := 68) (ad := (elA A1 1 (x114) 0)) (v := .slice A163 (x161).length cap164) (by kernel_rfl) (qT (qT (qB (qT (qL (qB (qT (qT qZ)))))))) (by kernel_rfl) (by kernel_rfl) vt68 (fun W hW => hW.keep hc166) ?_
        refine wH_done (by kernel_rfl) ?_
        refine eX_tail ?_
        obtain ⟨y169, hy170, hm⟩ := bindE hm
        refine wS_calls (d := 25) (f := 55) (vs := [.slice A155 (x153).length cap156, .slice A163 (x161).length cap164]) (by kernel_rfl) ent55 (c_laws_eqInt64S hy170 F159 F167) ?_
        rintro _ w171 ⟨rfl, hc172⟩
        replace F116 := F116.chg hc172 Dj.nil
        replace F117 := F117.chg hc172 Dj.nil
        replace F159 := F159.chg hc172 Dj.nil
        replace F167 := F167.chg hc172 Dj.nil
        replace hB := hB.inS hc172 inNil
        replace hZ := Nat.le_trans hZ hc172.size
        refine ⟨.bool (y169), rfl, ?_⟩
        refine wS_pure 1 [(26, .bool (!y169))] (by kernel_rfl) ?_
        refine wS_end (by rfl) ?_
        refine eX_then ?_
        refine cW_cond (t := !y169) (by kernel_rfl) (fun hb173 => ?_) (fun hb173 => ?_)
        · have hm := condT hb173 hm
          refine cW_seq ?_
          refine cW_region ?_
          refine wS_pure 1 [(4, .bool (false))] (by kernel_rfl) ?_
          refine wS_end (by rfl) ?_
          refine eX_then ?_
          refine cW_ret ?_
          refine eX_block_ret ?_
          refine eX_then_ret ?_
          have hq : (some (Ctl.out (Sum.inr false)) : Option (Ctl (Int) (Sum (Unit) ((Bool))))) = some _ := hm
          replace hq := someE hq
          subst hq
          refine eX_outR hx123 (fun hr => ?_)
          subst hr
          refine eX_block_ret ?_
          refine eX_then_ret ?_
          refine eX_then_ret ?_
          have hq : (some false : Option ((Bool))) = some _ := hm120
          replace hq := someE hq
          subst hq
          refine eX_ret (vs := [.bool (false)]) [.tmp 4] (by rfl) ⟨by (show lkE _ _ _ = _); kernel_rfl, trivial⟩ ?_
          exact ⟨rfl, hB⟩
        · have hm := condF hb173 hm
          refine cW_skip ?_
          refine eX_block ?_
          refine eX_then ?_
          refine cW_region ?_
          refine wS_pure 3 [(5, .int .i64 (wr (x114 + 1))), (16, .int .i64 (wr (x114 + 1))), (15, .int .i64 (x114))] (by kernel_rfl) ?_
          refine wS_end (by rfl) ?_
          have hq : (some (Ctl.next (wr (x114 + 1))) : Option (Ctl (Int) (Sum (Unit) ((Bool))))) = some _ := hm
          replace hq := someE hq
          subst hq
          exact eX_next hx123 (fun hst => ⟨wr (x114 + 1), rfl, Fr.of hst (by kernel_rfl), F116, F117, hB, hZ⟩)
      · have hm := condF hb124 hm
        refine cW_exit ?_
        refine eX_then_exit ?_
        have hq : (some (Ctl.out (Sum.inl (()))) : Option (Ctl (Int) (Sum (Unit) ((Bool))))) = some _ := hm
        replace hq := someE hq
        subst hq
        refine eX_outX hx123 (fun hr174 => ?_)
        replace hr174 := hr174.symm
        subst hr174
        refine eX_block_hit ?_
        exact eX_J (fun hst => ⟨rfl, Fr.of hst (by kernel_rfl), hB, hZ⟩)
    · rintro a' w111 ⟨hJ, hF112, hB, hZ⟩
      subst hJ
      refine Fr.goX hF112 (by kernel_rfl) ?_
      refine eX_then ?_
      refine cW_seq ?_
      refine cW_region ?_
      refine wS_pure 1 [(4, .bool (true))] (by kernel_rfl) ?_
      refine wS_end (by rfl) ?_
      refine eX_then ?_
      refine cW_ret ?_
      have hq : (some true : Option ((Bool))) = some _ := hm
      replace hq := someE hq
      subst hq
      refine eX_ret (vs := [.bool (true)]) [.tmp 4] (by rfl) ⟨by (show lkE _ _ _ = _); kernel_rfl, trivial⟩ ?_
      exact ⟨rfl, hB⟩

noncomputable def m_laws_FnExactIsJoins (p0 : Int) (l1 : List (List (Int))) : Option ((Bool)) :=
  Option.bind (m_laws_szInt64SS l1 1048576) fun y2 => (bif decide (y2 < 0) then some true else Option.bind (m_laws_toInt64SS l1) fun y7 => Option.bind (m_spec_IsJoins p0 y7) fun y17 => Option.bind (m_laws_toInt64SS l1) fun y21 => Option.bind (m_impl_IsJoins p0 y21) fun y32 => (bif !(y32 == y17) then some false else Option.bind (m_laws_toInt64SS l1) fun y38 => Option.bind (m_laws_eqInt64SS y21 y38) fun y50 => (bif !y50 then some false else some true)))
set_option maxRecDepth 100000 in
/-- laws.FnExactIsJoins -/
theorem c_laws_FnExactIsJoins {w0 : World} {p0 : Int} {l1 : List (List (Int))} {A1 : Option Addr} {cap1 : Nat} {fp1 : List Nat} {r : (Bool)} (hm : m_laws_FnExactIsJoins p0 l1 = some r) (F1 : SlR 1 encI w0 fp1 A1 l1) :
    Calls Try.prog 9 #[.int .i64 (p0), .slice A1 (l1).length cap1] w0 fun e w' => e = .returned (.bool (r)) ∧ Chg [] w0 w' := by
  have L1 := F1.low
  have hB : Chg [] w0 w0 := Chg.refl _ _
  have hZ := Nat.le_refl w0.heap.size
  unfold m_laws_FnExactIsJoins at hm
  refine enterE (N := 31) Try.func9 (by rfl) Try.ntmps9 (by simp) [(0, .int .i64 (p0)), (1, .slice A1 (l1).length cap1)] (by rfl) (by kernel_rfl) (fun a => ?_)
  refine cW_seq ?_
  refine cW_region ?_
  refine wS_pure 1 [(4, .bool (false))] (by kernel_rfl) ?_
  refine wS_end (by rfl) ?_
  refine eX_then ?_
  refine cW_seq ?_
  refine cW_region ?_
  refine wS_pure 1 [(5, .int .i64 (1048576))] (by kernel_rfl) ?_
  refine wS_end (by rfl) ?_
  refine eX_then ?_
  refine cW_seq ?_
  refine cW_region ?_
  refine wS_pure 2 [(10, .int .i64 (1048576)), (9, .slice A1 (l1).length cap1)] (by kernel_rfl) ?_
  obtain ⟨y2, hy3, hm⟩ := bindE hm
  refine wS_calls (d := 11) (f := 36) (vs := [.slice A1 (l1).length cap1, .int .i64 (1048576)]) (by kernel_rfl) ent36 (c_laws_szInt64SS hy3 F1) ?_
  rintro _ w4 ⟨rfl, hc5⟩
  replace F1 := F1.chg hc5 Dj.nil
  replace hB := hB.inS hc5 inNil
  replace hZ := Nat.le_trans hZ hc5.size
  refine ⟨.int .i64 (y2), rfl, ?_⟩
  refine wS_pure 1 [(5, .int .i64 (y2))] (by kernel_rfl) ?_
  refine wS_end (by rfl) ?_
  refine eX_then ?_
  refine cW_seq ?_
  refine cW_seq ?_
  refine cW_region ?_
  refine wS_pure 2 [(13, .bool (decide (y2 < 0))), (12, .int .i64 (y2))] (by kernel_rfl) ?_
  refine wS_end (by rfl) ?_
  refine eX_then ?_
  refine cW_cond (t := decide (y2 < 0)) (by kernel_rfl) (fun hb6 => ?_) (fun hb6 => ?_)
  · have hm := condT hb6 hm
    refine cW_seq ?_
    refine cW_region ?_
    refine wS_pure 1 [(4, .bool (true))] (by kernel_rfl) ?_
    refine wS_end (by rfl) ?_
    refine eX_then ?_
    refine cW_ret ?_
    refine eX_then_ret ?_
    have hq : (some true : Option ((Bool))) = some _ := hm
    replace hq := someE hq
    subst hq
    refine eX_ret (vs := [.bool (true)]) [.tmp 4] (by rfl) ⟨by (show lkE _ _ _ = _); kernel_rfl, trivial⟩ ?_
    exact ⟨rfl, hB⟩
  · have hm := condF hb6 hm
    refine cW_skip ?_
    refine eX_then ?_
    refine cW_seq ?_
    refine cW_region ?_
    refine wS_pure 2 [(15, .slice A1 (l1).length cap1), (14, .int .i64 (p0))] (by kernel_rfl) ?_
    obtain ⟨y7, hy8, hm⟩ := bindE hm
    refine wS_calls (d := 16) (f := 38) (vs := [.slice A1 (l1).length cap1]) (by kernel_rfl) ent38 (c_laws_toInt64SS hy8 F1) ?_
    rintro _ w9 ⟨A11, cap12, fp13, rfl, F14, G15, hc10⟩
    replace F1 := F1.chg hc10 Dj.nil
    replace hB := hB.inS hc10 inNil
    replace G15 := low_le hZ G15
    replace hZ := Nat.le_trans hZ hc10.size
    refine ⟨.slice A11 (y7).length cap12, rfl, ?_⟩
    obtain ⟨y17, hy18, hm⟩ := bindE hm
    refine wS_calls (d := 17) (f := 37) (vs := [.int .i64 (p0), .slice A11 (y7).length cap12]) (by kernel_rfl) ent37 (c_spec_IsJoins hy18 (F14.slr)) ?_
    rintro _ w19 ⟨rfl, hc20⟩
    replace F1 := F1.chg hc20 Dj.nil
    replace F14 := F14.chg hc20 Dj.nil
    replace hB := hB.inS hc20 inNil
    replace hZ := Nat.le_trans hZ hc20.size
    refine ⟨.bool (y17), rfl, ?_⟩
    refine wS_pure 1 [(6, .bool (y17))] (by kernel_rfl) ?_
    refine wS_end (by rfl) ?_
    refine eX_then ?_
    refine cW_seq ?_
    refine cW_region ?_
    refine wS_pure 1 [(18, .slice A1 (l1).length cap1)] (by kernel_rfl) ?_
    obtain ⟨y21, hy22, hm⟩ := bindE hm
    refine wS_calls (d := 19) (f := 38) (vs := [.slice A1 (l1).length cap1]) (by kernel_rfl) ent38 (c_laws_toInt64SS hy22 F1) ?_
    rintro _ w23 ⟨A25, cap26, fp27, rfl, F28, G29, hc24⟩
    have D31 : Dj fp13 fp27 := Dj.of F14.low G29
    replace F1 := F1.chg hc24 Dj.nil
    replace F14 := F14.chg hc24 Dj.nil
    replace hB := hB.inS hc24 inNil
    replace G29 := low_le hZ G29
    replace hZ := Nat.le_trans hZ hc24.size
    refine ⟨.slice A25 (y21).length cap26, rfl, ?_⟩
    refine wS_pure 1 [(7, .slice A25 (y21).length cap26)] (by kernel_rfl) ?_
    refine wS_end (by rfl) ?_
    refine eX_then ?_
    refine cW_seq ?_
    refine cW_region ?_
    refine wS_pure 2 [(21, .slice A25 (y21).length cap26), (20, .int .i64 (p0))] (by kernel_rfl) ?_
    obtain ⟨y32, hy33, hm⟩ := bindE hm
    refine wS_calls (d := 22) (f := 39) (vs := [.int .i64 (p0), .slice A25 (y21).length cap26]) (by kernel_rfl) ent39 (c_impl_IsJoins hy33 (F28.slr)) ?_
    rintro _ w34 ⟨rfl, hc35⟩
    replace F1 := F1.chg hc35 Dj.nil
    replace F14 := F14.chg hc35 Dj.nil
    replace F28 := F28.chg hc35 Dj.nil
    replace hB := hB.inS hc35 inNil
    replace hZ := Nat.le_trans hZ hc35.size
    refine ⟨.bool (y32), rfl, ?_⟩
    refine wS_pure 1 [(8, .bool (y32))] (by kernel_rfl) ?_
    refine wS_end (by rfl) ?_
    refine eX_then ?_
    refine cW_seq ?_
    refine cW_seq ?_
    refine cW_region ?_
    refine wS_pure 3 [(25, .bool (!(y32 == y17))), (24, .bool (y17)), (23, .bool (y32))] (by kernel_rfl) ?_
    refine wS_end (by rfl) ?_
    refine eX_then ?_
    refine cW_prune [(1, .slice A1 (l1).length cap1), (7, .slice A25 (y21).length cap26), (25, .bool (!(y32 == y17)))] (by kernel_rfl) (by kernel_rfl) (fun a36 => ?_)
    refine cW_cond (t := !(y32 == y17)) (by kernel_rfl) (fun hb37 => ?_) (fun hb37 => ?_)
    · have hm := condT hb37 hm
      refine cW_seq ?_
      refine cW_region ?_
      refine wS_pure 1 [(4, .bool (false))] (by kernel_rfl) ?_
      refine wS_end (by rfl) ?_
      refine eX_then ?_
      refine cW_ret ?_
      refine eX_then_ret ?_
      have hq : (some false : Option ((Bool))) = some _ := hm
      replace hq := someE hq
      subst hq
      refine eX_ret (vs := [.bool (false)]) [.tmp 4] (by rfl) ⟨by (show lkE _ _ _ = _); kernel_rfl, trivial⟩ ?_
      exact ⟨rfl, hB⟩
    · have hm := condF hb37 hm
      refine cW_skip ?_
      refine eX_then ?_
      refine cW_seq ?_
      refine cW_seq ?_
      refine cW_region ?_
      refine wS_pure 2 [(27, .slice A1 (l1).length cap1), (26, .slice A25 (y21).length cap26)] (by kernel_rfl) ?_
      obtain ⟨y38, hy39, hm⟩ := bindE hm
      refine wS_calls (d := 28) (f := 38) (vs := [.slice A1 (l1).length cap1]) (by kernel_rfl) ent38 (c_laws_toInt64SS hy39 F1) ?_
      rintro _ w40 ⟨A42, cap43, fp44, rfl, F45, G46, hc41⟩
      have D48 : Dj fp13 fp44 := Dj.of F14.low G46
      have D49 : Dj fp27 fp44 := Dj.of F28.low G46
      replace F1 := F1.chg hc41 Dj.nil
      replace F14 := F14.chg hc41 Dj.nil
      replace F28 := F28.chg hc41 Dj.nil
      replace hB := hB.inS hc41 inNil
      replace G46 := low_le hZ G46
      replace hZ := Nat.le_trans hZ hc41.size
      refine ⟨.slice A42 (y38).length cap43, rfl, ?_⟩
      obtain ⟨y50, hy51, hm⟩ := bindE hm
      refine wS_calls (d := 29) (f := 40) (vs := [.slice A25 (y21).length cap26, .slice A42 (y38).length cap43]) (by kernel_rfl) ent40 (c_laws_eqInt64SS hy51 (F28.slr) (F45.slr)) ?_
      rintro _ w52 ⟨rfl, hc53⟩
      replace F1 := F1.chg hc53 Dj.nil
      replace F14 := F14.chg hc53 Dj.nil
      replace F28 := F28.chg hc53 Dj.nil
      replace F45 := F45.chg hc53 Dj.nil
      replace hB := hB.inS hc53 inNil
      replace hZ := Nat.le_trans hZ hc53.size
      refine ⟨.bool (y50), rfl, ?_⟩
      refine wS_pure 1 [(30, .bool (!y50))] (by kernel_rfl) ?_
      refine wS_end (by rfl) ?_
      refine eX_then ?_
      refine cW_cond (t := !y50) (by kernel_rfl) (fun hb54 => ?_) (fun hb54 => ?_)
      · have hm := condT hb54 hm
        refine cW_seq ?_
        refine cW_region ?_
        refine wS_pure 1 [(4, .bool (false))] (by kernel_rfl) ?_
        refine wS_end (by rfl) ?_
        refine eX_then ?_
        refine cW_ret ?_
        refine eX_then_ret ?_
        have hq : (some false : Option ((Bool))) = some _ := hm
        replace hq := someE hq
        subst hq
        refine eX_ret (vs := [.bool (false)]) [.tmp 4] (by rfl) ⟨by (show lkE _ _ _ = _); kernel_rfl, trivial⟩ ?_
        exact ⟨rfl, hB⟩
      · have hm := condF hb54 hm
        refine cW_skip ?_
        refine eX_then ?_
        refine cW_seq ?_
        refine cW_region ?_
        refine wS_pure 1 [(4, .bool (true))] (by kernel_rfl) ?_
        refine wS_end (by rfl) ?_
        refine eX_then ?_
        refine cW_ret ?_
        have hq : (some true : Option ((Bool))) = some _ := hm
        replace hq := someE hq
        subst hq
        refine eX_ret (vs := [.bool (true)]) [.tmp 4] (by rfl) ⟨by (show lkE _ _ _ = _); kernel_rfl, trivial⟩ ?_
        exact ⟨rfl, hB⟩

end Go.Proofs.Ytmodhpgnkbnbaaa
