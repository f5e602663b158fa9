/- Printed walks: laws.b10Long, spec.l00From, spec.l01Index, (*spec.l00Src).next, (*spec.l00Src).pick, spec.l05DrawOk, spec.B10Pins, impl.in, impl.IsPoint, impl.noPoint, slices.Clone[[]impl.Point,impl.Point], slices.Compact[[]impl.Point,impl.Point], impl.sorted, slices.IndexFunc[[]impl.Point,impl.Point], slices.ContainsFunc[[]impl.Point,impl.Point], impl.pinsOk, impl.ArePins, impl.size, impl.far, impl.spanning, impl.SpanningTree, impl.hanan, slices.Clone[[]int64,int64], slices.Index[[]impl.Point,impl.Point]. -/
import Derived.Test.YtooogkcoedampaaProg
import Derived.Test.YtooogkcoedampaaMod
import Derived.Test.YtooogkcoedampaaEqs
import Derived.Test.YtooogkcoedampaaSrtC
import Derived.Test.YtooogkcoedampaaSrtR
import Derived.Test.YtooogkcoedampaaClp
set_option linter.unusedSimpArgs false
set_option linter.unusedVariables false
namespace Go.Proofs.Ytooogkcoedampaa
open Go.RowKit
attribute [local irreducible] wS cW eX wH

theorem ent8 : Ent Try.prog 8 := fun _ => by kernel_rfl
theorem ent14 : Ent Try.prog 14 := fun _ => by kernel_rfl
theorem ent15 : Ent Try.prog 15 := fun _ => by kernel_rfl
theorem ent16 : Ent Try.prog 16 := fun _ => by kernel_rfl
theorem ent17 : Ent Try.prog 17 := fun _ => by kernel_rfl
theorem ent20 : Ent Try.prog 20 := fun _ => by kernel_rfl
theorem ent22 : Ent Try.prog 22 := fun _ => by kernel_rfl
theorem ent23 : Ent Try.prog 23 := fun _ => by kernel_rfl
theorem ent24 : Ent Try.prog 24 := fun _ => by kernel_rfl
theorem ent25 : Ent Try.prog 25 := fun _ => by kernel_rfl
theorem ent27 : Ent Try.prog 27 := fun _ => by kernel_rfl
theorem ent28 : Ent Try.prog 28 := fun _ => by kernel_rfl
theorem ent29 : Ent Try.prog 29 := fun _ => by kernel_rfl
theorem ent33 : Ent Try.prog 33 := fun _ => by kernel_rfl
theorem ent36 : Ent Try.prog 36 := fun _ => by kernel_rfl
theorem ent37 : Ent Try.prog 37 := fun _ => by kernel_rfl
theorem ent41 : Ent Try.prog 41 := fun _ => by kernel_rfl
theorem ent42 : Ent Try.prog 42 := fun _ => by kernel_rfl
theorem ent43 : Ent Try.prog 43 := fun _ => by kernel_rfl
theorem ent45 : Ent Try.prog 45 := fun _ => by kernel_rfl
theorem vt4 : VarTy Try.prog 4 1 false := ⟨by kernel_rfl, by kernel_rfl⟩
theorem vt5 : VarTy Try.prog 5 1 false := ⟨by kernel_rfl, by kernel_rfl⟩
theorem vt22 : VarTy Try.prog 22 1 false := ⟨by kernel_rfl, by kernel_rfl⟩
theorem vt35 : VarTy Try.prog 35 2 true := ⟨by kernel_rfl, by kernel_rfl⟩
theorem vt50 : VarTy Try.prog 50 1 false := ⟨by kernel_rfl, by kernel_rfl⟩
theorem sl22 : SlTy Try.prog 22 5 1 := ⟨Try.underlying22, by kernel_rfl⟩
theorem sl24 : SlTy Try.prog 24 35 2 := ⟨Try.underlying24, by kernel_rfl⟩
theorem sl54 : SlTy Try.prog 54 4 1 := ⟨Try.underlying54, by kernel_rfl⟩
theorem el24 : ElTy Try.prog 24 35 2 (.agg #[.int .i64 (0), .int .i64 (0)]) := ElTy.mk' Try.underlying24 (by kernel_rfl) (by rfl)
theorem el26 : ElTy Try.prog 26 32 1 (.slice none 0 0) := ElTy.mk' Try.underlying26 (by kernel_rfl) (by rfl)
theorem el32 : ElTy Try.prog 32 2 1 (.int .i64 (0)) := ElTy.mk' Try.underlying32 (by kernel_rfl) (by rfl)
theorem el54 : ElTy Try.prog 54 4 1 (.bool (false)) := ElTy.mk' Try.underlying54 (by kernel_rfl) (by rfl)
theorem eq35 : ∃ f0 f1, EqTy Try.prog 35 f0 f1 := ⟨_, _, Try.underlying35, by kernel_rfl, by kernel_rfl, by kernel_rfl, fun w => pureRun_run (by kernel_rfl) w, fun w => pureRun_run (by kernel_rfl) w, rfl, rfl, Try.underlying2, Try.underlying2, by kernel_rfl⟩
theorem sz2 : pureRun Try.prog (sizeOf 2) = some 1 := by kernel_rfl
theorem sz3 : pureRun Try.prog (sizeOf 3) = some 1 := by kernel_rfl
theorem sz4 : pureRun Try.prog (sizeOf 4) = some 1 := by kernel_rfl
theorem sz35 : pureRun Try.prog (sizeOf 35) = some 2 := by kernel_rfl
theorem sz50 : pureRun Try.prog (sizeOf 50) = some 1 := by kernel_rfl

set_option maxRecDepth 100000 in
/-- laws.b10Long -/
theorem c_laws_b10Long {w0 : World} {l0 : List (Int)} {A0 : Option Addr} {cap0 : Nat} {fp0 : List Nat} {l1 : List (Int)} {A1 : Option Addr} {cap1 : Nat} {fp1 : List Nat} {r : (Bool)} (hm : m_laws_b10Long l0 l1 = some r) (F0 : Sl 1 encU w0 fp0 A0 l0) (F1 : Sl 1 encU w0 fp1 A1 l1) :
  Calls Try.prog 4 #[.slice A0 (l0).length cap0, .slice A1 (l1).length cap1] w0 fun e w' => e = .returned (.bool (r)) ∧ Chg [] w0 w' := by
 have L0 := F0.low
 have L1 := F1.low
 have hB : Chg [] w0 w0 := Chg.refl _ _
 have hZ := Nat.le_refl w0.heap.size
 unfold m_laws_b10Long at hm
 refine enterE (N := 13) Try.func4 (by rfl) Try.ntmps4 (by simp) [(0, .slice A0 (l0).length cap0), (1, .slice A1 (l1).length cap1)] (by rfl) (by kernel_rfl) (fun a => ?_)
 refine cW_seq ?_
 refine cW_region ?_
 refine wS_pure 1 [(4, .bool (false))] (by kernel_rfl) ?_
 refine wS_end (by rfl) ?_
 refine eX_then ?_
 refine cW_seq ?_
 refine cW_region ?_
 refine wS_pure 4 [(8, .bool (decide ((((l0).length : Int)) > 1048576))), (7, .bool (decide ((((l0).length : Int)) > 1048576))), (6, .int .i64 (((l0).length : Int))), (5, .slice A0 (l0).length cap0)] (by kernel_rfl) ?_
 refine wS_bool (decide ((((l0).length : Int)) > 1048576)) (fun hb1 => ?_) (fun hb1 => ?_)
 ·have hm := condT hb1 hm
  rewrite [hb1]
  refine wS_pure 5 [(4, .bool (true)), (12, .bool (true)), (11, undef), (10, undef), (9, undef)] (by kernel_rfl) ?_
  refine wS_end (by rfl) ?_
  refine eX_then ?_
  refine cW_ret ?_
  have hq : (some true : Option ((Bool))) = some _ := hm
  replace hq := someE hq
  subst hq
  refine eX_ret (vs := [.bool (true)]) [.tmp 4] (by rfl) ⟨by (show lkE _ _ _ = _); kernel_rfl, trivial⟩ ?_
  exact ⟨rfl, hB⟩
 ·have hm := condF hb1 hm
  rewrite [hb1]
  refine wS_pure 5 [(4, .bool (decide ((((l1).length : Int)) > 1048576))), (12, .bool (decide ((((l1).length : Int)) > 1048576))), (11, .bool (decide ((((l1).length : Int)) > 1048576))), (10, .int .i64 (((l1).length : Int))), (9, .slice A1 (l1).length cap1)] (by kernel_rfl) ?_
  refine wS_end (by rfl) ?_
  refine eX_then ?_
  refine cW_ret ?_
  have hq : (some (decide ((((l1).length : Int)) > 1048576)) : Option ((Bool))) = some _ := hm
  replace hq := someE hq
  subst hq
  refine eX_ret (vs := [.bool (decide ((((l1).length : Int)) > 1048576))]) [.tmp 4] (by rfl) ⟨by (show lkE _ _ _ = _); kernel_rfl, trivial⟩ ?_
  exact ⟨rfl, hB⟩

set_option maxRecDepth 100000 in
/-- spec.l00From -/
theorem c_spec_l00From {w0 : World} {l0 : List (Int)} {A0 : Option Addr} {cap0 : Nat} {fp0 : List Nat} {r : (Int × Int)} (hm : m_spec_l00From l0 = some r) (F0 : Sl 1 encU w0 fp0 A0 l0) :
  Calls Try.prog 14 #[.slice A0 (l0).length cap0] w0 fun e w' => ∃ b100, e = .returned (.pointer (some ⟨b100, 0, none⟩)) ∧ Cl w' b100 52 [.slice A0 (l0).length cap0, .int .i64 (r.1), .int .u64 (r.2)] ∧ w0.heap.size ≤ b100 ∧ Chg [] w0 w' := by
 have L0 := F0.low
 have hB : Chg [] w0 w0 := Chg.refl _ _
 have hZ := Nat.le_refl w0.heap.size
 unfold m_spec_l00From at hm
 refine enterE (N := 6) Try.func14 (by rfl) Try.ntmps14 (by simp) [(0, .slice A0 (l0).length cap0)] (by rfl) (by kernel_rfl) (fun a => ?_)
 refine cW_seq ?_
 refine cW_region ?_
 refine wS_pure 1 [(2, .pointer none)] (by kernel_rfl) ?_
 refine wS_end (by rfl) ?_
 refine eX_then ?_
 refine cW_seq ?_
 refine cW_region ?_
 refine wS_pure 2 [(4, .agg #[.slice A0 (l0).length cap0, .int .i64 (0), .int .u64 (0)]), (3, .slice A0 (l0).length cap0)] (by kernel_rfl) ?_
 refine wS_box (d := 5) (T := 52) (x := .agg #[.slice A0 (l0).length cap0, .int .i64 (0), .int .u64 (0)]) (by kernel_rfl) ?_
 intro b1 w1 G1 F1 hc1
 replace F1 : Cl w1 b1 52 [.slice A0 (l0).length cap0, .int .i64 (0), .int .u64 (0)] := F1
 replace F0 := F0.chg hc1 Dj.nil
 replace hB := hB.inS hc1 inNil
 replace G1 := Nat.le_trans hZ G1
 replace hZ := Nat.le_trans hZ hc1.size
 refine wS_pure 1 [(2, .pointer (some ⟨b1, 0, none⟩))] (by kernel_rfl) ?_
 refine wS_end (by rfl) ?_
 refine eX_then ?_
 refine cW_ret ?_
 have hq : (some ((0, 0)) : Option ((Int × Int))) = some _ := hm
 replace hq := someE hq
 subst hq
 refine eX_ret (vs := [.pointer (some ⟨b1, 0, none⟩)]) [.tmp 2] (by rfl) ⟨by (show lkE _ _ _ = _); kernel_rfl, trivial⟩ ?_
 exact ⟨b1, rfl, F1, G1, hB⟩

set_option maxRecDepth 100000 in
/-- spec.l01Index -/
theorem c_spec_l01Index {w0 : World} {l0 : List (Int × Int)} {A0 : Option Addr} {cap0 : Nat} {fp0 : List Nat} {p1_0 : Int} {p1_1 : Int} {r : (Int)} (hm : m_spec_l01Index l0 p1_0 p1_1 = some r) (F0 : Sl 2 encII w0 fp0 A0 l0) :
  Calls Try.prog 23 #[.slice A0 (l0).length cap0, .agg #[.int .i64 (p1_0), .int .i64 (p1_1)]] w0 fun e w' => e = .returned (.int .i64 (r)) ∧ Chg [] w0 w' := by
 have L0 := F0.low
 have hB : Chg [] w0 w0 := Chg.refl _ _
 have hZ := Nat.le_refl w0.heap.size
 unfold m_spec_l01Index at hm
 refine enterE (N := 19) Try.func23 (by rfl) Try.ntmps23 (by simp) [(0, .slice A0 (l0).length cap0), (1, .agg #[.int .i64 (p1_0), .int .i64 (p1_1)])] (by rfl) (by kernel_rfl) (fun a => ?_)
 refine cW_seq ?_
 refine cW_region ?_
 refine wS_box (d := 3) (T := 35) (x := .agg #[.int .i64 (p1_0), .int .i64 (p1_1)]) (by kernel_rfl) ?_
 intro b1 w1 G1 F1 hc1
 replace F1 : Cl w1 b1 35 [.int .i64 (p1_0), .int .i64 (p1_1)] := F1
 replace F0 := F0.chg hc1 Dj.nil
 replace hB := hB.inS hc1 inNil
 replace G1 := Nat.le_trans hZ G1
 replace hZ := Nat.le_trans hZ hc1.size
 refine wS_pure 1 [(4, .int .i64 (0))] (by kernel_rfl) ?_
 refine wS_end (by rfl) ?_
 refine eX_then ?_
 refine cW_seq ?_
 refine cW_seq ?_
 refine cW_region ?_
 refine wS_pure 1 [(5, .int .i64 (0))] (by kernel_rfl) ?_
 refine wS_end (by rfl) ?_
 refine eX_then ?_
 obtain ⟨r1, hr1, hm⟩ := bindE hm
 have hm1 := hm
 refine cW_cut (fun a' w' => Sum.inl (()) = r1 ∧ Fr 19 [] a' ∧ Chg [] w0 w' ∧ w0.heap.size ≤ w'.heap.size) ?_ ?_
 ·refine cW_block ?_
  refine cW_loop _ (fun (s1 : Int) a' w' => ∃ x1 : Int, x1 = s1 ∧ Fr 19 [(0, .slice A0 (l0).length cap0), (3, .pointer (some ⟨b1, 0, none⟩)), (5, .int .i64 (x1))] a' ∧ Sl 2 encII w' fp0 A0 l0 ∧ Cl w' b1 35 [.int .i64 (p1_0), .int .i64 (p1_1)] ∧ Chg [] w0 w' ∧ w0.heap.size ≤ w'.heap.size) hr1 (fun hst => ⟨0, rfl, Fr.of hst (by kernel_rfl), F0, F1, hB, hZ⟩) ?_
  rintro _ c1 a' w2 ⟨x1, rfl, hF1, F2, F3, hB, hZ⟩ hx1
  refine Fr.goOn hF1 (by kernel_rfl) ?_
  have hm := hx1
  unfold m_spec_l01Index_s1 at hm
  refine cW_seq ?_
  refine cW_seq ?_
  refine cW_region ?_
  refine wS_pure 4 [(9, .bool (decide (x1 < (((l0).length : Int))))), (8, .int .i64 (((l0).length : Int))), (7, .slice A0 (l0).length cap0), (6, .int .i64 (x1))] (by kernel_rfl) ?_
  refine wS_end (by rfl) ?_
  refine eX_then ?_
  refine cW_cond (t := decide (x1 < (((l0).length : Int)))) (by kernel_rfl) (fun hb1 => ?_) (fun hb1 => ?_)
  ·have hm := condT hb1 hm
   refine cW_skip ?_
   refine eX_then ?_
   refine cW_seq ?_
   refine cW_block ?_
   refine cW_seq ?_
   refine cW_drawnTail [] 5 (by kernel_rfl) (by kernel_rfl) (fun w3 hc2 => ?_)
   replace F2 := F2.chg hc2 Dj.nil
   replace F3 := F3.chg hc2 notNil
   replace hB := hB.inS hc2 inNil
   replace hZ := Nat.le_trans hZ hc2.size
   have hS := Chg.refl [] w3
   have Z1 := F2
   have Z2 := F3
   refine wH_take [0, 1] [1, 0] [(13, .int .i64 (x1)), (12, .slice A0 (l0).length cap0)] (by kernel_rfl) (qT (qT (qB (qT (qL (qB (qT (qT qZ)))))))) (by kernel_rfl) ?_
   obtain ⟨x2, hx2, hm⟩ := bindE hm
   refine wH_idx (i := 2) (d := 14) (T := 24) (A := A0) (n := (l0).length) (cap := cap0) (kd := .i64) (m := x1) (by kernel_rfl) (qT (qT (qB (qT (qL (qB (qT (qT qZ)))))))) (by kernel_rfl) (by kernel_rfl) sl24 (F2.is hx2) ?_
   refine wH_loadA (i := 3) (d := 15) (T := 35) (ad := (elA A0 2 (x1) 0)) (vs := [.int .i64 (x2.1), .int .i64 (x2.2)]) (by kernel_rfl) (qT (qT (qB (qT (qL (qB (qT (qT qZ)))))))) (by kernel_rfl) (by kernel_rfl) vt35 (fun W hW i u hu => Sl.cells_at (Z1.chg hW Dj.nil) hx2 0 hu (by rfl)) ?_
   refine wH_loadA (i := 4) (d := 16) (T := 35) (ad := ⟨b1, 0, none⟩) (vs := [.int .i64 (p1_0), .int .i64 (p1_1)]) (by kernel_rfl) (qT (qT (qB (qT (qL (qB (qT (qT qZ)))))))) (by kernel_rfl) (by kernel_rfl) vt35 (fun W hW i u hu => box_cells (Z2.chg hW notNil) 0 hu (by rfl)) ?_
   refine wH_done (by kernel_rfl) ?_
   refine eX_tail ?_
   refine wS_eqS (d := 17) (T := 35) (x := x2.1) (y := x2.2) (x' := p1_0) (y' := p1_1) (by kernel_rfl) eq35 ?_
   refine wS_end (by rfl) ?_
   refine eX_then ?_
   refine cW_cond (t := x2.1 == p1_0 && x2.2 == p1_1) (by kernel_rfl) (fun hb2 => ?_) (fun hb2 => ?_)
   ·have hm := condT hb2 hm
    refine cW_seq ?_
    refine cW_region ?_
    refine wS_pure 2 [(4, .int .i64 (x1)), (18, .int .i64 (x1))] (by kernel_rfl) ?_
    refine wS_end (by rfl) ?_
    refine eX_then ?_
    refine cW_ret ?_
    refine eX_block_ret ?_
    refine eX_then_ret ?_
    have hq : (some (Ctl.out (Sum.inr x1)) : Option (Ctl (Int) (Sum (Unit) ((Int))))) = some _ := hm
    replace hq := someE hq
    subst hq
    refine eX_outR hx1 (fun hr => ?_)
    subst hr
    refine eX_block_ret ?_
    refine eX_then_ret ?_
    refine eX_then_ret ?_
    have hq : (some x1 : Option ((Int))) = some _ := hm1
    replace hq := someE hq
    subst hq
    refine eX_ret (vs := [.int .i64 (x1)]) [.tmp 4] (by rfl) ⟨by (show lkE _ _ _ = _); kernel_rfl, trivial⟩ ?_
    exact ⟨rfl, hB⟩
   ·have hm := condF hb2 hm
    refine cW_skip ?_
    refine eX_block ?_
    refine eX_then ?_
    refine cW_region ?_
    refine wS_pure 3 [(5, .int .i64 (wr (x1 + 1))), (11, .int .i64 (wr (x1 + 1))), (10, .int .i64 (x1))] (by kernel_rfl) ?_
    refine wS_end (by rfl) ?_
    have hq : (some (Ctl.next (wr (x1 + 1))) : Option (Ctl (Int) (Sum (Unit) ((Int))))) = some _ := hm
    replace hq := someE hq
    subst hq
    exact eX_next hx1 (fun hst => ⟨wr (x1 + 1), rfl, Fr.of hst (by kernel_rfl), F2, F3, hB, hZ⟩)
  ·have hm := condF hb1 hm
   refine cW_exit ?_
   refine eX_then_exit ?_
   have hq : (some (Ctl.out (Sum.inl (()))) : Option (Ctl (Int) (Sum (Unit) ((Int))))) = some _ := hm
   replace hq := someE hq
   subst hq
   refine eX_outX hx1 (fun hr2 => ?_)
   replace hr2 := hr2.symm
   subst hr2
   refine eX_block_hit ?_
   exact eX_J (fun hst => ⟨rfl, Fr.of hst (by kernel_rfl), hB, hZ⟩)
 ·rintro a' w4 ⟨hJ, hF2, hB, hZ⟩
  subst hJ
  refine Fr.goX hF2 (by kernel_rfl) ?_
  refine eX_then ?_
  refine cW_seq ?_
  refine cW_region ?_
  refine wS_pure 1 [(4, .int .i64 ((-1)))] (by kernel_rfl) ?_
  refine wS_end (by rfl) ?_
  refine eX_then ?_
  refine cW_ret ?_
  have hq : (some ((-1)) : Option ((Int))) = some _ := hm
  replace hq := someE hq
  subst hq
  refine eX_ret (vs := [.int .i64 ((-1))]) [.tmp 4] (by rfl) ⟨by (show lkE _ _ _ = _); kernel_rfl, trivial⟩ ?_
  exact ⟨rfl, hB⟩

set_option maxRecDepth 100000 in
/-- spec.l00Src).next -/
theorem c_spec_l00Src_next_bspecl00Src {w0 : World} {l0_0 : List (Int)} {A0_0 : Option Addr} {cap0_0 : Nat} {fp0_0 : List Nat} {q0_1 : Int} {q0_2 : Int} {b0 : Nat} {r : (Int) × (Int) × (Int)} (hm : m_spec_l00Src_next_bspecl00Src l0_0 q0_1 q0_2 = some r) (F0_0 : Sl 1 encU w0 fp0_0 A0_0 l0_0) (F0 : Cl w0 b0 52 [.slice A0_0 (l0_0).length cap0_0, .int .i64 (q0_1), .int .u64 (q0_2)]) (J0__0_0 : Dj [b0] fp0_0) :
  Calls Try.prog 36 #[.pointer (some ⟨b0, 0, none⟩)] w0 fun e w' => e = .returned (.int .i64 (r.1)) ∧ Cl w' b0 52 [.slice A0_0 (l0_0).length cap0_0, .int .i64 (r.2.1), .int .u64 (r.2.2)] ∧ Chg ([b0] ++ []) w0 w' := by
 have L0_0 := F0_0.low
 have L0 := lt1 F0.lt
 have hB : Chg ([b0] ++ []) w0 w0 := Chg.refl _ _
 have hZ := Nat.le_refl w0.heap.size
 unfold m_spec_l00Src_next_bspecl00Src at hm
 refine enterE (N := 62) Try.func36 (by rfl) Try.ntmps36 (by simp) [(0, .pointer (some ⟨b0, 0, none⟩))] (by rfl) (by kernel_rfl) (fun a => ?_)
 refine cW_seq ?_
 refine cW_region ?_
 refine wS_pure 1 [(2, .int .i64 (0))] (by kernel_rfl) ?_
 refine wS_end (by rfl) ?_
 refine eX_then ?_
 refine cW_seq ?_
 refine cW_region ?_
 refine wS_pure 1 [(3, .int .i64 (0))] (by kernel_rfl) ?_
 refine wS_end (by rfl) ?_
 refine eX_then ?_
 refine cW_seq ?_
 obtain ⟨s1, hs1, hm⟩ := bindE hm
 refine cW_cut (fun a' w' => ∃ x1 : Int, x1 = s1 ∧ Fr 62 [(0, .pointer (some ⟨b0, 0, none⟩)), (3, .int .i64 (x1))] a' ∧ Sl 1 encU w' fp0_0 A0_0 l0_0 ∧ Cl w' b0 52 [.slice A0_0 (l0_0).length cap0_0, .int .i64 (q0_1), .int .u64 (q0_2)] ∧ Chg ([b0] ++ []) w0 w' ∧ w0.heap.size ≤ w'.heap.size) ?_ ?_
 ·have hm := hs1
  refine cW_seq ?_
  refine cW_drawnTail [] 9 (by kernel_rfl) (by kernel_rfl) (fun w1 hc1 => ?_)
  replace F0_0 := F0_0.chg hc1 Dj.nil
  replace F0 := F0.chg hc1 notNil
  replace hB := hB.inS hc1 inNil
  replace hZ := Nat.le_trans hZ hc1.size
  have hS := Chg.refl [] w1
  have Z1 := F0_0
  have Z2 := F0
  refine wH_take [0, 1, 2] [2, 1, 0] [(6, .pointer (some ⟨b0, 1, none⟩)), (5, .pointer (some ⟨b0, 0, none⟩)), (4, .pointer (some ⟨b0, 0, none⟩))] (by kernel_rfl) (qT (qT (qT (qT qZ)))) (by kernel_rfl) ?_
  refine wH_load1 (i := 3) (d := 7) (T := 3) (ad := ⟨b0, 1, none⟩) (v := .int .i64 (q0_1)) (by kernel_rfl) (qT (qT (qT (qT qZ)))) (by kernel_rfl) (by kernel_rfl) vt3 (fun W hW => (Z2.chg hW notNil).cell 1) ?_
  refine wH_take [4, 5, 6] [6, 5, 4, 3, 2, 1, 0] [(10, .pointer (some ⟨b0, 0, none⟩)), (9, .pointer (some ⟨b0, 0, none⟩)), (8, .pointer (some ⟨b0, 0, none⟩))] (by kernel_rfl) (qT (qT (qT (qT qZ)))) (by kernel_rfl) ?_
  refine wH_load1 (i := 7) (d := 11) (T := 22) (ad := ⟨b0, 0, none⟩) (v := .slice A0_0 (l0_0).length cap0_0) (by kernel_rfl) (qT (qT (qT (qT qZ)))) (by kernel_rfl) (by kernel_rfl) vt22 (fun W hW => (Z2.chg hW notNil).cell 0) ?_
  refine wH_take [8] [8, 7, 6, 5, 4, 3, 2, 1, 0] [(12, .int .i64 (((l0_0).length : Int)))] (by kernel_rfl) (qT (qT (qT (qT qZ)))) (by kernel_rfl) ?_
  refine wH_done (by kernel_rfl) ?_
  refine eX_tail ?_
  refine wS_pure 1 [(13, .bool (decide (q0_1 < (((l0_0).length : Int)))))] (by kernel_rfl) ?_
  refine wS_end (by rfl) ?_
  refine eX_then ?_
  refine cW_cond (t := decide (q0_1 < (((l0_0).length : Int)))) (by kernel_rfl) (fun hb1 => ?_) (fun hb1 => ?_)
  ·have hm := condT hb1 hm
   refine cW_drawnTail [] 8 (by kernel_rfl) (by kernel_rfl) (fun w2 hc2 => ?_)
   replace F0_0 := F0_0.chg hc2 Dj.nil
   replace F0 := F0.chg hc2 notNil
   replace hB := hB.inS hc2 inNil
   replace hZ := Nat.le_trans hZ hc2.size
   have hS := Chg.refl [] w2
   have Z3 := F0_0
   have Z4 := F0
   refine wH_take [0, 1, 2] [2, 1, 0] [(16, .pointer (some ⟨b0, 0, none⟩)), (15, .pointer (some ⟨b0, 0, none⟩)), (14, .pointer (some ⟨b0, 0, none⟩))] (by kernel_rfl) (qT (qT (qT qZ))) (by kernel_rfl) ?_
   refine wH_load1 (i := 3) (d := 17) (T := 22) (ad := ⟨b0, 0, none⟩) (v := .slice A0_0 (l0_0).length cap0_0) (by kernel_rfl) (qT (qT (qT qZ))) (by kernel_rfl) (by kernel_rfl) vt22 (fun W hW => (Z4.chg hW notNil).cell 0) ?_
   refine wH_take [4, 5, 6] [6, 5, 4, 3, 2, 1, 0] [(20, .pointer (some ⟨b0, 1, none⟩)), (19, .pointer (some ⟨b0, 0, none⟩)), (18, .pointer (some ⟨b0, 0, none⟩))] (by kernel_rfl) (qT (qT (qT qZ))) (by kernel_rfl) ?_
   refine wH_load1 (i := 7) (d := 21) (T := 3) (ad := ⟨b0, 1, none⟩) (v := .int .i64 (q0_1)) (by kernel_rfl) (qT (qT (qT qZ))) (by kernel_rfl) (by kernel_rfl) vt3 (fun W hW => (Z4.chg hW notNil).cell 1) ?_
   refine wH_done (by kernel_rfl) ?_
   refine eX_tail ?_
   obtain ⟨x2, hx1, hm⟩ := bindE hm
   refine wS_idx (d := 22) (T := 22) (A := A0_0) (n := (l0_0).length) (cap := cap0_0) (kd := .i64) (m := q0_1) (by kernel_rfl) sl22 (F0_0.is hx1) ?_
   refine wS_load1 (d := 23) (T := 5) (ad := (elA A0_0 1 (q0_1) 0)) (v := .int .u8 (x2)) (by kernel_rfl) vt5 (Sl.cell F0_0 hx1 0 (by rfl)) ?_
   refine wS_pure 2 [(3, .int .i64 (wr x2)), (24, .int .i64 (wr x2))] (by kernel_rfl) ?_
   refine wS_end (by rfl) ?_
   have hq : (some (wr x2) : Option (Int)) = some _ := hm
   replace hq := someE hq
   subst hq
   exact eX_J (fun hst => ⟨wr x2, rfl, Fr.of hst (by kernel_rfl), F0_0, F0, hB, hZ⟩)
  ·have hm := condF hb1 hm
   refine cW_skip ?_
   have hq : (some 0 : Option (Int)) = some _ := hm
   replace hq := someE hq
   subst hq
   exact eX_J (fun hst => ⟨0, rfl, Fr.of hst (by kernel_rfl), F0_0, F0, hB, hZ⟩)
 ·rintro a' w3 ⟨x1, hJ, hF1, F1, F2, hB, hZ⟩
  subst hJ
  refine Fr.goX hF1 (by kernel_rfl) ?_
  refine eX_then ?_
  refine cW_seq ?_
  refine cW_region ?_
  refine wS_pure 3 [(27, .pointer (some ⟨b0, 1, none⟩)), (26, .pointer (some ⟨b0, 0, none⟩)), (25, .pointer (some ⟨b0, 0, none⟩))] (by kernel_rfl) ?_
  refine wS_load1 (d := 28) (T := 3) (ad := ⟨b0, 1, none⟩) (v := .int .i64 (q0_1)) (by kernel_rfl) vt3 ((F2).cell 1) ?_
  refine wS_pure 3 [(31, .pointer (some ⟨b0, 1, none⟩)), (30, .pointer (some ⟨b0, 0, none⟩)), (29, .int .i64 (wr (q0_1 + 1)))] (by kernel_rfl) ?_
  refine wS_store (T := 3) (g := b0) (o := 1) (ad := ⟨b0, 1, none⟩) (v := .int .i64 (wr (q0_1 + 1))) (vs := [.int .i64 (wr (q0_1 + 1))]) (by kernel_rfl) (by rfl) sz3 (by rfl) (by rfl) F2 (by simp only [List.length_cons, List.length_nil]; omega) ?_
  intro w4 F3 hc3
  replace F1 := F1.chg hc3 (J0__0_0).symm
  replace hB := hB.inS hc3 (inMem (fun x hx => (List.mem_append_left _ hx)))
  replace hZ := Nat.le_trans hZ hc3.size
  replace F3 : Cl w4 b0 52 [.slice A0_0 (l0_0).length cap0_0, .int .i64 (wr (q0_1 + 1)), .int .u64 (q0_2)] := F3
  clear F2
  refine wS_end (by rfl) ?_
  refine eX_then ?_
  refine cW_seq ?_
  refine cW_region ?_
  refine wS_pure 4 [(35, .pointer (some ⟨b0, 2, none⟩)), (34, .pointer (some ⟨b0, 0, none⟩)), (33, .pointer (some ⟨b0, 0, none⟩)), (32, .pointer (some ⟨b0, 0, none⟩))] (by kernel_rfl) ?_
  refine wS_load1 (d := 36) (T := 50) (ad := ⟨b0, 2, none⟩) (v := .int .u64 (q0_2)) (by kernel_rfl) vt50 ((F3).cell 2) ?_
  refine wS_pure 7 [(43, .pointer (some ⟨b0, 2, none⟩)), (42, .pointer (some ⟨b0, 0, none⟩)), (41, .int .u64 (wu ((wu ((wu (q0_2 * 6364136223846793005)) + (wu x1))) + 1442695040888963407))), (40, .int .u64 (wu ((wu (q0_2 * 6364136223846793005)) + (wu x1)))), (39, .int .u64 (wu x1)), (38, .int .i64 (x1)), (37, .int .u64 (wu (q0_2 * 6364136223846793005)))] (by kernel_rfl) ?_
  refine wS_store (T := 50) (g := b0) (o := 2) (ad := ⟨b0, 2, none⟩) (v := .int .u64 (wu ((wu ((wu (q0_2 * 6364136223846793005)) + (wu x1))) + 1442695040888963407))) (vs := [.int .u64 (wu ((wu ((wu (q0_2 * 6364136223846793005)) + (wu x1))) + 1442695040888963407))]) (by kernel_rfl) (by rfl) sz50 (by rfl) (by rfl) F3 (by simp only [List.length_cons, List.length_nil]; omega) ?_
  intro w5 F4 hc4
  replace F1 := F1.chg hc4 (J0__0_0).symm
  replace hB := hB.inS hc4 (inMem (fun x hx => (List.mem_append_left _ hx)))
  replace hZ := Nat.le_trans hZ hc4.size
  replace F4 : Cl w5 b0 52 [.slice A0_0 (l0_0).length cap0_0, .int .i64 (wr (q0_1 + 1)), .int .u64 (wu ((wu ((wu (q0_2 * 6364136223846793005)) + (wu x1))) + 1442695040888963407))] := F4
  clear F3
  refine wS_end (by rfl) ?_
  refine eX_then ?_
  refine cW_seq ?_
  refine cW_seq ?_
  refine cW_drawnTail [] 9 (by kernel_rfl) (by kernel_rfl) (fun w6 hc5 => ?_)
  replace F1 := F1.chg hc5 Dj.nil
  replace F4 := F4.chg hc5 notNil
  replace hB := hB.inS hc5 inNil
  replace hZ := Nat.le_trans hZ hc5.size
  have hS := Chg.refl [] w6
  have Z5 := F1
  have Z6 := F4
  refine wH_take [0, 1, 2] [2, 1, 0] [(46, .pointer (some ⟨b0, 1, none⟩)), (45, .pointer (some ⟨b0, 0, none⟩)), (44, .pointer (some ⟨b0, 0, none⟩))] (by kernel_rfl) (qT (qT (qT qZ))) (by kernel_rfl) ?_
  refine wH_load1 (i := 3) (d := 47) (T := 3) (ad := ⟨b0, 1, none⟩) (v := .int .i64 (wr (q0_1 + 1))) (by kernel_rfl) (qT (qT (qT qZ))) (by kernel_rfl) (by kernel_rfl) vt3 (fun W hW => (Z6.chg hW notNil).cell 1) ?_
  refine wH_take [4, 5, 6] [6, 5, 4, 3, 2, 1, 0] [(50, .pointer (some ⟨b0, 0, none⟩)), (49, .pointer (some ⟨b0, 0, none⟩)), (48, .pointer (some ⟨b0, 0, none⟩))] (by kernel_rfl) (qT (qT (qT qZ))) (by kernel_rfl) ?_
  refine wH_load1 (i := 7) (d := 51) (T := 22) (ad := ⟨b0, 0, none⟩) (v := .slice A0_0 (l0_0).length cap0_0) (by kernel_rfl) (qT (qT (qT qZ))) (by kernel_rfl) (by kernel_rfl) vt22 (fun W hW => (Z6.chg hW notNil).cell 0) ?_
  refine wH_take [8] [8, 7, 6, 5, 4, 3, 2, 1, 0] [(52, .int .i64 (((l0_0).length : Int)))] (by kernel_rfl) (qT (qT (qT qZ))) (by kernel_rfl) ?_
  refine wH_done (by kernel_rfl) ?_
  refine eX_tail ?_
  refine wS_pure 1 [(53, .bool (decide ((wr (q0_1 + 1)) ≤ (((l0_0).length : Int)))))] (by kernel_rfl) ?_
  refine wS_end (by rfl) ?_
  refine eX_then ?_
  refine cW_prune [(0, .pointer (some ⟨b0, 0, none⟩)), (3, .int .i64 (x1)), (53, .bool (decide ((wr (q0_1 + 1)) ≤ (((l0_0).length : Int)))))] (by kernel_rfl) (by kernel_rfl) (fun a1 => ?_)
  refine cW_cond (t := decide ((wr (q0_1 + 1)) ≤ (((l0_0).length : Int)))) (by kernel_rfl) (fun hb2 => ?_) (fun hb2 => ?_)
  ·have hm := condT hb2 hm
   refine cW_seq ?_
   refine cW_region ?_
   refine wS_pure 2 [(2, .int .i64 (x1)), (54, .int .i64 (x1))] (by kernel_rfl) ?_
   refine wS_end (by rfl) ?_
   refine eX_then ?_
   refine cW_ret ?_
   refine eX_then_ret ?_
   have hq : (some ((x1, wr (q0_1 + 1), wu ((wu ((wu (q0_2 * 6364136223846793005)) + (wu x1))) + 1442695040888963407))) : Option ((Int) × (Int) × (Int))) = some _ := hm
   replace hq := someE hq
   subst hq
   refine eX_ret (vs := [.int .i64 (x1)]) [.tmp 2] (by rfl) ⟨by (show lkE _ _ _ = _); kernel_rfl, trivial⟩ ?_
   exact ⟨rfl, F4, hB⟩
  ·have hm := condF hb2 hm
   refine cW_skip ?_
   refine eX_then ?_
   refine cW_seq ?_
   refine cW_region ?_
   refine wS_pure 3 [(57, .pointer (some ⟨b0, 2, none⟩)), (56, .pointer (some ⟨b0, 0, none⟩)), (55, .pointer (some ⟨b0, 0, none⟩))] (by kernel_rfl) ?_
   refine wS_load1 (d := 58) (T := 50) (ad := ⟨b0, 2, none⟩) (v := .int .u64 (wu ((wu ((wu (q0_2 * 6364136223846793005)) + (wu x1))) + 1442695040888963407))) (by kernel_rfl) vt50 ((F4).cell 2) ?_
   refine wS_pure 4 [(2, .int .i64 (wr (andU (shrU (wu ((wu ((wu (q0_2 * 6364136223846793005)) + (wu x1))) + 1442695040888963407)) 40) 255))), (61, .int .i64 (wr (andU (shrU (wu ((wu ((wu (q0_2 * 6364136223846793005)) + (wu x1))) + 1442695040888963407)) 40) 255))), (60, .int .u64 (andU (shrU (wu ((wu ((wu (q0_2 * 6364136223846793005)) + (wu x1))) + 1442695040888963407)) 40) 255)), (59, .int .u64 (shrU (wu ((wu ((wu (q0_2 * 6364136223846793005)) + (wu x1))) + 1442695040888963407)) 40))] (by kernel_rfl) ?_
   refine wS_end (by rfl) ?_
   refine eX_then ?_
   refine cW_ret ?_
   have hq : (some ((wr (andU (shrU (wu ((wu ((wu (q0_2 * 6364136223846793005)) + (wu x1))) + 1442695040888963407)) 40) 255), wr (q0_1 + 1), wu ((wu ((wu (q0_2 * 6364136223846793005)) + (wu x1))) + 1442695040888963407))) : Option ((Int) × (Int) × (Int))) = some _ := hm
   replace hq := someE hq
   subst hq
   refine eX_ret (vs := [.int .i64 (wr (andU (shrU (wu ((wu ((wu (q0_2 * 6364136223846793005)) + (wu x1))) + 1442695040888963407)) 40) 255))]) [.tmp 2] (by rfl) ⟨by (show lkE _ _ _ = _); kernel_rfl, trivial⟩ ?_
   exact ⟨rfl, F4, hB⟩

set_option maxRecDepth 100000 in
/-- spec.l00Src).pick -/
theorem c_spec_l00Src_pick_bspecl00Src {w0 : World} {l0_0 : List (Int)} {A0_0 : Option Addr} {cap0_0 : Nat} {fp0_0 : List Nat} {q0_1 : Int} {q0_2 : Int} {b0 : Nat} {p1 : Int} {r : (Int) × (Int) × (Int)} (hm : m_spec_l00Src_pick_bspecl00Src l0_0 q0_1 q0_2 p1 = some r) (F0_0 : Sl 1 encU w0 fp0_0 A0_0 l0_0) (F0 : Cl w0 b0 52 [.slice A0_0 (l0_0).length cap0_0, .int .i64 (q0_1), .int .u64 (q0_2)]) (J0__0_0 : Dj [b0] fp0_0) :
  Calls Try.prog 22 #[.pointer (some ⟨b0, 0, none⟩), .int .i64 (p1)] w0 fun e w' => e = .returned (.int .i64 (r.1)) ∧ Cl w' b0 52 [.slice A0_0 (l0_0).length cap0_0, .int .i64 (r.2.1), .int .u64 (r.2.2)] ∧ Chg ([b0] ++ []) w0 w' := by
 have L0_0 := F0_0.low
 have L0 := lt1 F0.lt
 have hB : Chg ([b0] ++ []) w0 w0 := Chg.refl _ _
 have hZ := Nat.le_refl w0.heap.size
 unfold m_spec_l00Src_pick_bspecl00Src at hm
 refine enterE (N := 20) Try.func22 (by rfl) Try.ntmps22 (by simp) [(0, .pointer (some ⟨b0, 0, none⟩)), (1, .int .i64 (p1))] (by rfl) (by kernel_rfl) (fun a => ?_)
 refine cW_seq ?_
 refine cW_region ?_
 refine wS_pure 1 [(4, .int .i64 (0))] (by kernel_rfl) ?_
 refine wS_end (by rfl) ?_
 refine eX_then ?_
 refine cW_seq ?_
 refine cW_seq ?_
 refine cW_region ?_
 refine wS_pure 2 [(7, .bool (decide (p1 ≤ 1))), (6, .int .i64 (p1))] (by kernel_rfl) ?_
 refine wS_end (by rfl) ?_
 refine eX_then ?_
 refine cW_cond (t := decide (p1 ≤ 1)) (by kernel_rfl) (fun hb1 => ?_) (fun hb1 => ?_)
 ·have hm := condT hb1 hm
  refine cW_seq ?_
  refine cW_region ?_
  refine wS_pure 1 [(4, .int .i64 (0))] (by kernel_rfl) ?_
  refine wS_end (by rfl) ?_
  refine eX_then ?_
  refine cW_ret ?_
  refine eX_then_ret ?_
  have hq : (some ((0, q0_1, q0_2)) : Option ((Int) × (Int) × (Int))) = some _ := hm
  replace hq := someE hq
  subst hq
  refine eX_ret (vs := [.int .i64 (0)]) [.tmp 4] (by rfl) ⟨by (show lkE _ _ _ = _); kernel_rfl, trivial⟩ ?_
  exact ⟨rfl, F0, hB⟩
 ·have hm := condF hb1 hm
  refine cW_skip ?_
  refine eX_then ?_
  refine cW_seq ?_
  refine cW_region ?_
  refine wS_pure 1 [(8, .pointer (some ⟨b0, 0, none⟩))] (by kernel_rfl) ?_
  obtain ⟨y1, hy1, hm⟩ := bindE hm
  refine wS_calls (d := 9) (f := 36) (vs := [.pointer (some ⟨b0, 0, none⟩)]) (by kernel_rfl) ent36 (c_spec_l00Src_next_bspecl00Src hy1 F0_0 F0 J0__0_0) ?_
  rintro _ w1 ⟨rfl, F1, hc1⟩
  replace F0_0 := F0_0.chg hc1 (Dj.app (J0__0_0).symm Dj.nil)
  replace hB := hB.inS hc1 (inApp (inMem (fun x hx => (List.mem_append_left _ hx))) inNil)
  replace hZ := Nat.le_trans hZ hc1.size
  clear F0
  refine ⟨.int .i64 (y1.1), rfl, ?_⟩
  refine wS_pure 1 [(5, .int .i64 (y1.1))] (by kernel_rfl) ?_
  refine wS_end (by rfl) ?_
  refine eX_then ?_
  refine cW_seq ?_
  obtain ⟨s1, hs1, hm⟩ := bindE hm
  refine cW_cut (fun a' w' => ∃ x1 : Int, ∃ x2 : Int, ∃ x3 : Int, (x1, x2, x3) = s1 ∧ Fr 20 [(1, .int .i64 (p1)), (5, .int .i64 (x1))] a' ∧ Sl 1 encU w' fp0_0 A0_0 l0_0 ∧ Cl w' b0 52 [.slice A0_0 (l0_0).length cap0_0, .int .i64 (x2), .int .u64 (x3)] ∧ Chg ([b0] ++ []) w0 w' ∧ w0.heap.size ≤ w'.heap.size) ?_ ?_
  ·have hm := hs1
   refine cW_seq ?_
   refine cW_region ?_
   refine wS_pure 2 [(11, .bool (decide (p1 > 200))), (10, .int .i64 (p1))] (by kernel_rfl) ?_
   refine wS_end (by rfl) ?_
   refine eX_then ?_
   refine cW_cond (t := decide (p1 > 200)) (by kernel_rfl) (fun hb2 => ?_) (fun hb2 => ?_)
   ·have hm := condT hb2 hm
    refine cW_region ?_
    refine wS_pure 3 [(14, .pointer (some ⟨b0, 0, none⟩)), (13, .int .i64 (wr (y1.1 * 256))), (12, .int .i64 (y1.1))] (by kernel_rfl) ?_
    obtain ⟨y2, hy2, hm⟩ := bindE hm
    refine wS_calls (d := 15) (f := 36) (vs := [.pointer (some ⟨b0, 0, none⟩)]) (by kernel_rfl) ent36 (c_spec_l00Src_next_bspecl00Src hy2 F0_0 F1 J0__0_0) ?_
    rintro _ w2 ⟨rfl, F2, hc2⟩
    replace F0_0 := F0_0.chg hc2 (Dj.app (J0__0_0).symm Dj.nil)
    replace hB := hB.inS hc2 (inApp (inMem (fun x hx => (List.mem_append_left _ hx))) inNil)
    replace hZ := Nat.le_trans hZ hc2.size
    clear F1
    refine ⟨.int .i64 (y2.1), rfl, ?_⟩
    refine wS_pure 2 [(5, .int .i64 (wr ((wr (y1.1 * 256)) + y2.1))), (16, .int .i64 (wr ((wr (y1.1 * 256)) + y2.1)))] (by kernel_rfl) ?_
    refine wS_end (by rfl) ?_
    have hq : (some ((wr ((wr (y1.1 * 256)) + y2.1), y2.2.1, y2.2.2)) : Option (Int × Int × Int)) = some _ := hm
    replace hq := someE hq
    subst hq
    exact eX_J (fun hst => ⟨wr ((wr (y1.1 * 256)) + y2.1), y2.2.1, y2.2.2, rfl, Fr.of hst (by kernel_rfl), F0_0, F2, hB, hZ⟩)
   ·have hm := condF hb2 hm
    refine cW_skip ?_
    have hq : (some ((y1.1, y1.2.1, y1.2.2)) : Option (Int × Int × Int)) = some _ := hm
    replace hq := someE hq
    subst hq
    exact eX_J (fun hst => ⟨y1.1, y1.2.1, y1.2.2, rfl, Fr.of hst (by kernel_rfl), F0_0, F1, hB, hZ⟩)
  ·rintro a' w3 ⟨x1, x2, x3, hJ, hF1, F3, F4, hB, hZ⟩
   subst hJ
   refine Fr.goX hF1 (by kernel_rfl) ?_
   refine eX_then ?_
   refine cW_seq ?_
   refine cW_region ?_
   refine wS_pure 2 [(18, .int .i64 (p1)), (17, .int .i64 (x1))] (by kernel_rfl) ?_
   obtain ⟨u1, hu1, hm⟩ := bindE hm
   refine wS_rem (d := 19) (x := x1) (y := p1) (by kernel_rfl) (nzE hu1) ?_
   refine wS_pure 1 [(4, .int .i64 (Int.tmod x1 p1))] (by kernel_rfl) ?_
   refine wS_end (by rfl) ?_
   refine eX_then ?_
   refine cW_ret ?_
   have hq : (some ((Int.tmod x1 p1, x2, x3)) : Option ((Int) × (Int) × (Int))) = some _ := hm
   replace hq := someE hq
   subst hq
   refine eX_ret (vs := [.int .i64 (Int.tmod x1 p1)]) [.tmp 4] (by rfl) ⟨by (show lkE _ _ _ = _); kernel_rfl, trivial⟩ ?_
   exact ⟨rfl, F4, hB⟩

set_option maxRecDepth 100000 in
/-- spec.l05DrawOk -/
theorem c_spec_l05DrawOk_bspecl00Src {w0 : World} {l0_0 : List (Int)} {A0_0 : Option Addr} {cap0_0 : Nat} {fp0_0 : List Nat} {q0_1 : Int} {q0_2 : Int} {b0 : Nat} {p1 : Int} {r : (List (Int × Int)) × (Int) × (Int)} (hm : m_spec_l05DrawOk_bspecl00Src l0_0 q0_1 q0_2 p1 = some r) (F0_0 : Sl 1 encU w0 fp0_0 A0_0 l0_0) (F0 : Cl w0 b0 52 [.slice A0_0 (l0_0).length cap0_0, .int .i64 (q0_1), .int .u64 (q0_2)]) (J0__0_0 : Dj [b0] fp0_0) :
  Calls Try.prog 15 #[.pointer (some ⟨b0, 0, none⟩), .int .i64 (p1)] w0 fun e w' => ∃ A100 cap100 fp100, e = .returned (.slice A100 (r.1).length cap100) ∧ Ow 2 encII 35 w' fp100 A100 cap100 r.1 ∧ (∀ x ∈ fp100, w0.heap.size ≤ x) ∧ Cl w' b0 52 [.slice A0_0 (l0_0).length cap0_0, .int .i64 (r.2.1), .int .u64 (r.2.2)] ∧ Chg ([b0] ++ []) w0 w' := by
 have L0_0 := F0_0.low
 have L0 := lt1 F0.lt
 have hB : Chg ([b0] ++ []) w0 w0 := Chg.refl _ _
 have hZ := Nat.le_refl w0.heap.size
 unfold m_spec_l05DrawOk_bspecl00Src at hm
 refine enterE (N := 32) Try.func15 (by rfl) Try.ntmps15 (by simp) [(0, .pointer (some ⟨b0, 0, none⟩)), (1, .int .i64 (p1))] (by rfl) (by kernel_rfl) (fun a => ?_)
 refine cW_seq ?_
 refine cW_region ?_
 refine wS_pure 1 [(4, .slice none 0 0)] (by kernel_rfl) ?_
 refine wS_end (by rfl) ?_
 refine eX_then ?_
 refine cW_seq ?_
 refine cW_region ?_
 refine wS_bs0 (α := Int × Int) (enc := encII) (d := 8) (t := 24) (T := 35) (by kernel_rfl) el24 ?_
 intro b1 w1 G1 F1 hc1
 replace F0_0 := F0_0.chg hc1 Dj.nil
 replace F0 := F0.chg hc1 notNil
 replace hB := hB.inS hc1 inNil
 replace G1 := Nat.le_trans hZ G1
 replace G1 := low1 G1
 replace hZ := Nat.le_trans hZ hc1.size
 refine wS_pure 1 [(5, .slice (some ⟨b1, 0, none⟩) (([] : List (Int × Int))).length 0)] (by kernel_rfl) ?_
 refine wS_end (by rfl) ?_
 refine eX_then ?_
 refine cW_seq ?_
 refine cW_seq ?_
 refine cW_region ?_
 refine wS_pure 2 [(10, .int .i64 (p1)), (9, .pointer (some ⟨b0, 0, none⟩))] (by kernel_rfl) ?_
 obtain ⟨y1, hy1, hm⟩ := bindE hm
 refine wS_calls (d := 11) (f := 22) (vs := [.pointer (some ⟨b0, 0, none⟩), .int .i64 (p1)]) (by kernel_rfl) ent22 (c_spec_l00Src_pick_bspecl00Src hy1 F0_0 F0 J0__0_0) ?_
 rintro _ w2 ⟨rfl, F2, hc2⟩
 replace F0_0 := F0_0.chg hc2 (Dj.app (J0__0_0).symm Dj.nil)
 replace F1 := F1.chg hc2 (Dj.app (Dj.of L0 G1).symm Dj.nil)
 replace hB := hB.inS hc2 (inApp (inMem (fun x hx => (List.mem_append_left _ hx))) inNil)
 replace hZ := Nat.le_trans hZ hc2.size
 clear F0
 refine ⟨.int .i64 (y1.1), rfl, ?_⟩
 refine wS_pure 2 [(6, .int .i64 (wr (1 + y1.1))), (12, .int .i64 (wr (1 + y1.1)))] (by kernel_rfl) ?_
 refine wS_end (by rfl) ?_
 refine eX_then ?_
 obtain ⟨r1, hr1, hm⟩ := bindE hm
 have hm1 := hm
 refine cW_cut (fun a' w' => ∃ l1 : List (Int × Int), ∃ A1 : Option Addr, ∃ cap1 : Nat, ∃ fp1 : List Nat, ∃ x1 : Int, ∃ x2 : Int, (l1, x1, x2) = r1 ∧ Fr 32 [(5, .slice A1 (l1).length cap1)] a' ∧ Sl 1 encU w' fp0_0 A0_0 l0_0 ∧ Cl w' b0 52 [.slice A0_0 (l0_0).length cap0_0, .int .i64 (x1), .int .u64 (x2)] ∧ Ow 2 encII 35 w' fp1 A1 cap1 l1 ∧ (∀ x ∈ fp1, w0.heap.size ≤ x) ∧ Chg ([b0] ++ []) w0 w' ∧ w0.heap.size ≤ w'.heap.size) ?_ ?_
 ·refine cW_block ?_
  refine cW_loop _ (fun (s1 : (List (Int × Int)) × Int × Int × Int) a' w' => ∃ l3 : List (Int × Int), ∃ A3 : Option Addr, ∃ cap3 : Nat, ∃ fp2 : List Nat, ∃ x3 : Int, ∃ x4 : Int, ∃ x5 : Int, (l3, x3, x4, x5) = s1 ∧ Fr 32 [(0, .pointer (some ⟨b0, 0, none⟩)), (5, .slice A3 (l3).length cap3), (6, .int .i64 (x3))] a' ∧ Sl 1 encU w' fp0_0 A0_0 l0_0 ∧ Cl w' b0 52 [.slice A0_0 (l0_0).length cap0_0, .int .i64 (x4), .int .u64 (x5)] ∧ Ow 2 encII 35 w' fp2 A3 cap3 l3 ∧ (∀ x ∈ fp2, w0.heap.size ≤ x) ∧ Chg ([b0] ++ []) w0 w' ∧ w0.heap.size ≤ w'.heap.size) hr1 (fun hst => ⟨([] : List (Int × Int)), (some ⟨b1, 0, none⟩), 0, [b1], wr (1 + y1.1), y1.2.1, y1.2.2, rfl, Fr.of hst (by kernel_rfl), F0_0, F2, F1, G1, hB, hZ⟩) ?_
  rintro _ c1 a' w3 ⟨l3, A3, cap3, fp2, x3, x4, x5, rfl, hF1, F3, F4, F5, G2, hB, hZ⟩ hx1
  refine Fr.goOn hF1 (by kernel_rfl) ?_
  have hm := hx1
  unfold m_spec_l05DrawOk_bspecl00Src_s1 at hm
  refine cW_seq ?_
  refine cW_seq ?_
  refine cW_region ?_
  refine wS_pure 2 [(14, .bool (decide (x3 > 0))), (13, .int .i64 (x3))] (by kernel_rfl) ?_
  refine wS_end (by rfl) ?_
  refine eX_then ?_
  refine cW_cond (t := decide (x3 > 0)) (by kernel_rfl) (fun hb1 => ?_) (fun hb1 => ?_)
  ·have hm := condT hb1 hm
   refine cW_skip ?_
   refine eX_then ?_
   refine cW_seq ?_
   refine cW_block ?_
   obtain ⟨s2, hs1, hm⟩ := bindE hm
   refine cW_cut (fun a' w' => ∃ l4 : List (Int × Int), ∃ A4 : Option Addr, ∃ cap4 : Nat, ∃ fp3 : List Nat, ∃ x6 : Int, ∃ x7 : Int, (l4, x6, x7) = s2 ∧ Fr 32 [(0, .pointer (some ⟨b0, 0, none⟩)), (5, .slice A4 (l4).length cap4), (6, .int .i64 (x3))] a' ∧ Sl 1 encU w' fp0_0 A0_0 l0_0 ∧ Cl w' b0 52 [.slice A0_0 (l0_0).length cap0_0, .int .i64 (x6), .int .u64 (x7)] ∧ Ow 2 encII 35 w' fp3 A4 cap4 l4 ∧ (∀ x ∈ fp3, w0.heap.size ≤ x) ∧ Chg ([b0] ++ []) w0 w' ∧ w0.heap.size ≤ w'.heap.size) ?_ ?_
   ·have hm := hs1
    refine cW_seq ?_
    refine cW_region ?_
    refine wS_pure 1 [(17, .pointer (some ⟨b0, 0, none⟩))] (by kernel_rfl) ?_
    obtain ⟨y2, hy2, hm⟩ := bindE hm
    refine wS_calls (d := 18) (f := 22) (vs := [.pointer (some ⟨b0, 0, none⟩), .int .i64 (9)]) (by kernel_rfl) ent22 (c_spec_l00Src_pick_bspecl00Src hy2 F3 F4 J0__0_0) ?_
    rintro _ w4 ⟨rfl, F6, hc3⟩
    replace F3 := F3.chg hc3 (Dj.app (J0__0_0).symm Dj.nil)
    replace F5 := F5.chg hc3 (Dj.app (Dj.of L0 G2).symm Dj.nil)
    replace hB := hB.inS hc3 (inApp (inMem (fun x hx => (List.mem_append_left _ hx))) inNil)
    replace hZ := Nat.le_trans hZ hc3.size
    clear F4
    refine ⟨.int .i64 (y2.1), rfl, ?_⟩
    refine wS_pure 1 [(19, .agg #[.int .i64 (y2.1), .int .i64 (0)])] (by kernel_rfl) ?_
    refine wS_alloc (d := 7) (T := 35) (z := .agg #[.int .i64 (0), .int .i64 (0)]) (by kernel_rfl) (by kernel_rfl) ?_
    intro b2 w5 G3 F7 hc4
    replace F7 : Cl w5 b2 35 [.int .i64 (0), .int .i64 (0)] := F7
    have D1 : Dj fp2 [b2] := Dj.of F5.low (low1 G3)
    replace F3 := F3.chg hc4 Dj.nil
    replace F6 := F6.chg hc4 notNil
    replace F5 := F5.chg hc4 Dj.nil
    replace hB := hB.inS hc4 inNil
    replace G3 := Nat.le_trans hZ G3
    replace hZ := Nat.le_trans hZ hc4.size
    refine wS_store (T := 35) (g := b2) (o := 0) (ad := ⟨b2, 0, none⟩) (v := .agg #[.int .i64 (y2.1), .int .i64 (0)]) (vs := [.int .i64 (y2.1), .int .i64 (0)]) (by kernel_rfl) (by rfl) sz35 (by rfl) (by rfl) F7 (by simp only [List.length_cons, List.length_nil]; omega) ?_
    intro w6 F8 hc5
    replace F3 := F3.chg hc5 (Dj.of L0_0 (low1 G3))
    replace F6 := F6.chg hc5 (dj1 (Dj.of L0 (low1 G3)))
    replace F5 := F5.chg hc5 D1
    replace hB := hB.inS hc5 (inLow (low1 G3))
    replace hZ := Nat.le_trans hZ hc5.size
    replace F8 : Cl w6 b2 35 [.int .i64 (y2.1), .int .i64 (0)] := F8
    clear F7
    refine wS_end (by rfl) ?_
    refine eX_then ?_
    refine cW_seq ?_
    refine cW_region ?_
    refine wS_pure 1 [(20, .pointer (some ⟨b0, 0, none⟩))] (by kernel_rfl) ?_
    obtain ⟨y3, hy3, hm⟩ := bindE hm
    refine wS_calls (d := 21) (f := 22) (vs := [.pointer (some ⟨b0, 0, none⟩), .int .i64 (9)]) (by kernel_rfl) ent22 (c_spec_l00Src_pick_bspecl00Src hy3 F3 F6 J0__0_0) ?_
    rintro _ w7 ⟨rfl, F9, hc6⟩
    replace F3 := F3.chg hc6 (Dj.app (J0__0_0).symm Dj.nil)
    replace F5 := F5.chg hc6 (Dj.app (Dj.of L0 G2).symm Dj.nil)
    replace F8 := F8.chg hc6 (dj1 (Dj.app (Dj.of L0 (low1 G3)).symm Dj.nil))
    replace hB := hB.inS hc6 (inApp (inMem (fun x hx => (List.mem_append_left _ hx))) inNil)
    replace hZ := Nat.le_trans hZ hc6.size
    clear F6
    refine ⟨.int .i64 (y3.1), rfl, ?_⟩
    refine wS_pure 1 [(22, .pointer (some ⟨b2, 1, none⟩))] (by kernel_rfl) ?_
    refine wS_store (T := 2) (g := b2) (o := 1) (ad := ⟨b2, 1, none⟩) (v := .int .i64 (y3.1)) (vs := [.int .i64 (y3.1)]) (by kernel_rfl) (by rfl) sz2 (by rfl) (by rfl) F8 (by simp only [List.length_cons, List.length_nil]; omega) ?_
    intro w8 F10 hc7
    replace F3 := F3.chg hc7 (Dj.of L0_0 (low1 G3))
    replace F9 := F9.chg hc7 (dj1 (Dj.of L0 (low1 G3)))
    replace F5 := F5.chg hc7 D1
    replace hB := hB.inS hc7 (inLow (low1 G3))
    replace hZ := Nat.le_trans hZ hc7.size
    replace F10 : Cl w8 b2 35 [.int .i64 (y2.1), .int .i64 (y3.1)] := F10
    clear F8
    refine wS_end (by rfl) ?_
    refine eX_then ?_
    refine cW_seq ?_
    refine cW_region ?_
    refine wS_pure 1 [(23, .slice A3 (l3).length cap3)] (by kernel_rfl) ?_
    refine wS_loadA (d := 24) (T := 35) (ad := ⟨b2, 0, none⟩) (vs := [.int .i64 (y2.1), .int .i64 (y3.1)]) (by kernel_rfl) vt35 (fun i u hu => box_cells F10 0 hu (by rfl)) ?_
    obtain ⟨y4, hy4, hm⟩ := bindE hm
    refine wS_calls (d := 25) (f := 23) (vs := [.slice A3 (l3).length cap3, .agg #[.int .i64 (y2.1), .int .i64 (y3.1)]]) (by kernel_rfl) ent23 (c_spec_l01Index hy4 (F5.sl encII_ok)) ?_
    rintro _ w9 ⟨rfl, hc8⟩
    replace F3 := F3.chg hc8 Dj.nil
    replace F9 := F9.chg hc8 notNil
    replace F5 := F5.chg hc8 Dj.nil
    replace F10 := F10.chg hc8 notNil
    replace hB := hB.inS hc8 inNil
    replace hZ := Nat.le_trans hZ hc8.size
    refine ⟨.int .i64 (y4), rfl, ?_⟩
    refine wS_pure 1 [(26, .bool (decide (y4 < 0)))] (by kernel_rfl) ?_
    refine wS_end (by rfl) ?_
    refine eX_then ?_
    refine cW_cond (t := decide (y4 < 0)) (by kernel_rfl) (fun hb2 => ?_) (fun hb2 => ?_)
    ·have hm := condT hb2 hm
     refine cW_region ?_
     refine wS_pure 1 [(27, .slice A3 (l3).length cap3)] (by kernel_rfl) ?_
     refine wS_loadA (d := 28) (T := 35) (ad := ⟨b2, 0, none⟩) (vs := [.int .i64 (y2.1), .int .i64 (y3.1)]) (by kernel_rfl) vt35 (fun i u hu => box_cells F10 0 hu (by rfl)) ?_
     refine wS_bs (enc := encII) ([(y2.1, y3.1)] : List (Int × Int)) [.int .i64 (y2.1), .int .i64 (y3.1)] (d := 29) (t := 24) (T := 35) (n := 1) (ps := [(0, .agg #[.int .i64 (y2.1), .int .i64 (y3.1)])]) (by kernel_rfl) el24 encII_ok (by rfl) (by omega) (by omega) (by kernel_rfl) (by rfl) ?_
     intro b3 w10 G4 F11 hc9
     have D2 : Dj fp2 [b3] := Dj.of F5.low (low1 G4)
     have D3 : Dj [b2] [b3] := Dj.of (lt1 F10.lt) (low1 G4)
     replace F3 := F3.chg hc9 Dj.nil
     replace F9 := F9.chg hc9 notNil
     replace F5 := F5.chg hc9 Dj.nil
     replace F10 := F10.chg hc9 notNil
     replace hB := hB.inS hc9 inNil
     replace G4 := Nat.le_trans hZ G4
     replace G4 := low1 G4
     replace hZ := Nat.le_trans hZ hc9.size
     obtain ⟨_, hk1, hm⟩ := bindE hm
     replace hk1 := apE hk1
     refine wS_append (enc := encII) (l := (l3 : List (Int × Int))) (l2 := (([(y2.1, y3.1)] : List (Int × Int)) : List (Int × Int))) (d := 30) (t := 24) (T := 35) (A := A3) (A2 := (some ⟨b3, 0, none⟩)) (cap := cap3) (cap2 := 1) (by kernel_rfl) el24 encII_ok F5 (F11.sl encII_ok) (by rfl) hk1 ?_
     intro w11 fp4 A5 cap5 F12 hc10 hp1
     have G5 := low_ap G2 hZ hp1
     have D4 : Dj [b2] fp4 := Dj.ap (D1).symm (lt1 F10.lt) hp1
     have D5 : Dj [b3] fp4 := Dj.ap (D2).symm F11.low hp1
     replace F3 := F3.chg hc10 (Dj.of L0_0 G2)
     replace F9 := F9.chg hc10 (dj1 (Dj.of L0 G2))
     replace F10 := F10.chg hc10 (dj1 (D1).symm)
     replace F11 := F11.chg hc10 (D2).symm
     replace hB := hB.inS hc10 (inLow G2)
     replace hZ := Nat.le_trans hZ hc10.size
     refine wS_pure 1 [(5, .slice A5 (l3 ++ (([(y2.1, y3.1)] : List (Int × Int)))).length cap5)] (by kernel_rfl) ?_
     refine wS_end (by rfl) ?_
     have hq : (some ((l3 ++ (([(y2.1, y3.1)] : List (Int × Int))), y3.2.1, y3.2.2)) : Option ((List (Int × Int)) × Int × Int)) = some _ := hm
     replace hq := someE hq
     subst hq
     exact eX_J (fun hst => ⟨l3 ++ (([(y2.1, y3.1)] : List (Int × Int))), A5, cap5, fp4, y3.2.1, y3.2.2, rfl, Fr.of hst (by kernel_rfl), F3, F9, F12, G5, hB, hZ⟩)
    ·have hm := condF hb2 hm
     refine cW_skip ?_
     have hq : (some ((l3, y3.2.1, y3.2.2)) : Option ((List (Int × Int)) × Int × Int)) = some _ := hm
     replace hq := someE hq
     subst hq
     exact eX_J (fun hst => ⟨l3, A3, cap3, fp2, y3.2.1, y3.2.2, rfl, Fr.of hst (by kernel_rfl), F3, F9, F5, G2, hB, hZ⟩)
   ·rintro a' w12 ⟨l4, A4, cap4, fp3, x6, x7, hJ, hF2, F13, F14, F15, G6, hB, hZ⟩
    subst hJ
    refine Fr.goX hF2 (by kernel_rfl) ?_
    refine eX_block ?_
    refine eX_then ?_
    refine cW_region ?_
    refine wS_pure 3 [(6, .int .i64 (wr (x3 - 1))), (16, .int .i64 (wr (x3 - 1))), (15, .int .i64 (x3))] (by kernel_rfl) ?_
    refine wS_end (by rfl) ?_
    have hq : (some (Ctl.next ((l4, wr (x3 - 1), x6, x7))) : Option (Ctl ((List (Int × Int)) × Int × Int × Int) ((List (Int × Int)) × Int × Int))) = some _ := hm
    replace hq := someE hq
    subst hq
    exact eX_next hx1 (fun hst => ⟨l4, A4, cap4, fp3, wr (x3 - 1), x6, x7, rfl, Fr.of hst (by kernel_rfl), F13, F14, F15, G6, hB, hZ⟩)
  ·have hm := condF hb1 hm
   refine cW_exit ?_
   refine eX_then_exit ?_
   have hq : (some (Ctl.out ((l3, x4, x5))) : Option (Ctl ((List (Int × Int)) × Int × Int × Int) ((List (Int × Int)) × Int × Int))) = some _ := hm
   replace hq := someE hq
   subst hq
   refine eX_outX hx1 (fun hr2 => ?_)
   replace hr2 := hr2.symm
   subst hr2
   refine eX_block_hit ?_
   exact eX_J (fun hst => ⟨l3, A3, cap3, fp2, x4, x5, rfl, Fr.of hst (by kernel_rfl), F3, F4, F5, G2, hB, hZ⟩)
 ·rintro a' w13 ⟨l1, A1, cap1, fp1, x1, x2, hJ, hF3, F16, F17, F18, G7, hB, hZ⟩
  subst hJ
  refine Fr.goX hF3 (by kernel_rfl) ?_
  refine eX_then ?_
  refine cW_seq ?_
  refine cW_region ?_
  refine wS_pure 2 [(4, .slice A1 (l1).length cap1), (31, .slice A1 (l1).length cap1)] (by kernel_rfl) ?_
  refine wS_end (by rfl) ?_
  refine eX_then ?_
  refine cW_ret ?_
  have hq : (some ((l1, x1, x2)) : Option ((List (Int × Int)) × (Int) × (Int))) = some _ := hm
  replace hq := someE hq
  subst hq
  refine eX_ret (vs := [.slice A1 (l1).length cap1]) [.tmp 4] (by rfl) ⟨by (show lkE _ _ _ = _); kernel_rfl, trivial⟩ ?_
  exact ⟨A1, cap1, fp1, rfl, F18, G7, F17, hB⟩

set_option maxRecDepth 100000 in
/-- spec.B10Pins -/
theorem c_spec_B10Pins {w0 : World} {l0 : List (Int)} {A0 : Option Addr} {cap0 : Nat} {fp0 : List Nat} {p1 : Int} {r : (List (Int × Int))} (hm : m_spec_B10Pins l0 p1 = some r) (F0 : Sl 1 encU w0 fp0 A0 l0) :
  Calls Try.prog 5 #[.slice A0 (l0).length cap0, .int .i64 (p1)] w0 fun e w' => ∃ A100 cap100 fp100, e = .returned (.slice A100 (r).length cap100) ∧ Ow 2 encII 35 w' fp100 A100 cap100 r ∧ (∀ x ∈ fp100, w0.heap.size ≤ x) ∧ Chg [] w0 w' := by
 have L0 := F0.low
 have hB : Chg [] w0 w0 := Chg.refl _ _
 have hZ := Nat.le_refl w0.heap.size
 unfold m_spec_B10Pins at hm
 refine enterE (N := 11) Try.func5 (by rfl) Try.ntmps5 (by simp) [(0, .slice A0 (l0).length cap0), (1, .int .i64 (p1))] (by rfl) (by kernel_rfl) (fun a => ?_)
 refine cW_seq ?_
 refine cW_region ?_
 refine wS_pure 1 [(4, .slice none 0 0)] (by kernel_rfl) ?_
 refine wS_end (by rfl) ?_
 refine eX_then ?_
 refine cW_seq ?_
 refine cW_region ?_
 refine wS_pure 1 [(6, .slice A0 (l0).length cap0)] (by kernel_rfl) ?_
 obtain ⟨y1, hy1, hm⟩ := bindE hm
 refine wS_calls (d := 7) (f := 14) (vs := [.slice A0 (l0).length cap0]) (by kernel_rfl) ent14 (c_spec_l00From hy1 F0) ?_
 rintro _ w1 ⟨b1, rfl, F1, G1, hc1⟩
 replace F0 := F0.chg hc1 Dj.nil
 replace hB := hB.inS hc1 inNil
 replace G1 := Nat.le_trans hZ G1
 replace hZ := Nat.le_trans hZ hc1.size
 refine ⟨.pointer (some ⟨b1, 0, none⟩), rfl, ?_⟩
 refine wS_pure 1 [(5, .pointer (some ⟨b1, 0, none⟩))] (by kernel_rfl) ?_
 refine wS_end (by rfl) ?_
 refine eX_then ?_
 refine cW_seq ?_
 refine cW_region ?_
 refine wS_pure 2 [(9, .int .i64 (p1)), (8, .pointer (some ⟨b1, 0, none⟩))] (by kernel_rfl) ?_
 obtain ⟨y2, hy2, hm⟩ := bindE hm
 refine wS_calls (d := 10) (f := 15) (vs := [.pointer (some ⟨b1, 0, none⟩), .int .i64 (p1)]) (by kernel_rfl) ent15 (c_spec_l05DrawOk_bspecl00Src hy2 F0 F1 (Dj.of L0 (low1 G1)).symm) ?_
 rintro _ w2 ⟨A1, cap1, fp1, rfl, F2, G2, F3, hc2⟩
 have D1 : Dj [b1] fp1 := Dj.of (lt1 F1.lt) G2
 replace F0 := F0.chg hc2 (Dj.app (Dj.of L0 (low1 G1)) Dj.nil)
 replace hB := hB.inS hc2 (inApp (inLow (low1 G1)) inNil)
 replace G2 := low_le hZ G2
 replace hZ := Nat.le_trans hZ hc2.size
 clear F1
 refine ⟨.slice A1 (y2.1).length cap1, rfl, ?_⟩
 refine wS_pure 1 [(4, .slice A1 (y2.1).length cap1)] (by kernel_rfl) ?_
 refine wS_end (by rfl) ?_
 refine eX_then ?_
 refine cW_ret ?_
 have hq : (some y2.1 : Option ((List (Int × Int)))) = some _ := hm
 replace hq := someE hq
 subst hq
 refine eX_ret (vs := [.slice A1 (y2.1).length cap1]) [.tmp 4] (by rfl) ⟨by (show lkE _ _ _ = _); kernel_rfl, trivial⟩ ?_
 exact ⟨A1, cap1, fp1, rfl, F2, G2, hB⟩

set_option maxRecDepth 100000 in
/-- impl.in -/
theorem c_impl_in {w0 : World} {p0 : Int} {p1 : Int} {p2 : Int} {r : (Bool)} (hm : m_impl_in p0 p1 p2 = some r)  :
  Calls Try.prog 33 #[.int .i64 (p0), .int .i64 (p1), .int .i64 (p2)] w0 fun e w' => e = .returned (.bool (r)) ∧ Chg [] w0 w' := by
 have hB : Chg [] w0 w0 := Chg.refl _ _
 have hZ := Nat.le_refl w0.heap.size
 unfold m_impl_in at hm
 refine enterE (N := 15) Try.func33 (by rfl) Try.ntmps33 (by simp) [(0, .int .i64 (p0)), (1, .int .i64 (p1)), (2, .int .i64 (p2))] (by rfl) (by kernel_rfl) (fun a => ?_)
 refine cW_seq ?_
 refine cW_region ?_
 refine wS_pure 1 [(6, .bool (false))] (by kernel_rfl) ?_
 refine wS_end (by rfl) ?_
 refine eX_then ?_
 refine cW_seq ?_
 refine cW_region ?_
 refine wS_pure 4 [(10, .bool (decide (p0 ≥ p1))), (9, .bool (decide (p0 ≥ p1))), (8, .int .i64 (p1)), (7, .int .i64 (p0))] (by kernel_rfl) ?_
 refine wS_bool (decide (p0 ≥ p1)) (fun hb1 => ?_) (fun hb1 => ?_)
 ·have hm := condT hb1 hm
  rewrite [hb1]
  refine wS_pure 5 [(6, .bool (decide (p0 ≤ p2))), (14, .bool (decide (p0 ≤ p2))), (13, .bool (decide (p0 ≤ p2))), (12, .int .i64 (p2)), (11, .int .i64 (p0))] (by kernel_rfl) ?_
  refine wS_end (by rfl) ?_
  refine eX_then ?_
  refine cW_ret ?_
  have hq : (some (decide (p0 ≤ p2)) : Option ((Bool))) = some _ := hm
  replace hq := someE hq
  subst hq
  refine eX_ret (vs := [.bool (decide (p0 ≤ p2))]) [.tmp 6] (by rfl) ⟨by (show lkE _ _ _ = _); kernel_rfl, trivial⟩ ?_
  exact ⟨rfl, hB⟩
 ·have hm := condF hb1 hm
  rewrite [hb1]
  refine wS_pure 5 [(6, .bool (false)), (14, .bool (false)), (13, undef), (12, undef), (11, undef)] (by kernel_rfl) ?_
  refine wS_end (by rfl) ?_
  refine eX_then ?_
  refine cW_ret ?_
  have hq : (some false : Option ((Bool))) = some _ := hm
  replace hq := someE hq
  subst hq
  refine eX_ret (vs := [.bool (false)]) [.tmp 6] (by rfl) ⟨by (show lkE _ _ _ = _); kernel_rfl, trivial⟩ ?_
  exact ⟨rfl, hB⟩

set_option maxRecDepth 100000 in
/-- impl.IsPoint -/
theorem c_impl_IsPoint {w0 : World} {p0_0 : Int} {p0_1 : Int} {r : (Bool)} (hm : m_impl_IsPoint p0_0 p0_1 = some r)  :
  Calls Try.prog 20 #[.agg #[.int .i64 (p0_0), .int .i64 (p0_1)]] w0 fun e w' => e = .returned (.bool (r)) ∧ Chg [] w0 w' := by
 have hB : Chg [] w0 w0 := Chg.refl _ _
 have hZ := Nat.le_refl w0.heap.size
 unfold m_impl_IsPoint at hm
 refine enterE (N := 11) Try.func20 (by rfl) Try.ntmps20 (by simp) [(0, .agg #[.int .i64 (p0_0), .int .i64 (p0_1)])] (by rfl) (by kernel_rfl) (fun a => ?_)
 refine cW_seq ?_
 refine cW_region ?_
 refine wS_box (d := 1) (T := 35) (x := .agg #[.int .i64 (p0_0), .int .i64 (p0_1)]) (by kernel_rfl) ?_
 intro b1 w1 G1 F1 hc1
 replace F1 : Cl w1 b1 35 [.int .i64 (p0_0), .int .i64 (p0_1)] := F1
 replace hB := hB.inS hc1 inNil
 replace G1 := Nat.le_trans hZ G1
 replace hZ := Nat.le_trans hZ hc1.size
 refine wS_pure 1 [(2, .bool (false))] (by kernel_rfl) ?_
 refine wS_end (by rfl) ?_
 refine eX_then ?_
 refine cW_seq ?_
 refine cW_region ?_
 refine wS_pure 1 [(3, .pointer (some ⟨b1, 0, none⟩))] (by kernel_rfl) ?_
 refine wS_load1 (d := 4) (T := 2) (ad := ⟨b1, 0, none⟩) (v := .int .i64 (p0_0)) (by kernel_rfl) vt2 ((F1).cell 0) ?_
 obtain ⟨y1, hy1, hm⟩ := bindE hm
 refine wS_calls (d := 5) (f := 33) (vs := [.int .i64 (p0_0), .int .i64 (0), .int .i64 (99)]) (by kernel_rfl) ent33 (c_impl_in hy1) ?_
 rintro _ w2 ⟨rfl, hc2⟩
 replace F1 := F1.chg hc2 notNil
 replace hB := hB.inS hc2 inNil
 replace hZ := Nat.le_trans hZ hc2.size
 refine ⟨.bool (y1), rfl, ?_⟩
 refine wS_pure 1 [(6, .bool (y1))] (by kernel_rfl) ?_
 refine wS_bool y1 (fun hb1 => ?_) (fun hb1 => ?_)
 ·have hm := condT hb1 hm
  rewrite [hb1]
  refine wS_pure 1 [(7, .pointer (some ⟨b1, 1, none⟩))] (by kernel_rfl) ?_
  refine wS_load1 (d := 8) (T := 2) (ad := ⟨b1, 1, none⟩) (v := .int .i64 (p0_1)) (by kernel_rfl) vt2 ((F1).cell 1) ?_
  obtain ⟨y2, hy2, hm⟩ := bindE hm
  refine wS_calls (d := 9) (f := 33) (vs := [.int .i64 (p0_1), .int .i64 (0), .int .i64 (99)]) (by kernel_rfl) ent33 (c_impl_in hy2) ?_
  rintro _ w3 ⟨rfl, hc3⟩
  replace F1 := F1.chg hc3 notNil
  replace hB := hB.inS hc3 inNil
  replace hZ := Nat.le_trans hZ hc3.size
  refine ⟨.bool (y2), rfl, ?_⟩
  refine wS_pure 2 [(2, .bool (y2)), (10, .bool (y2))] (by kernel_rfl) ?_
  refine wS_end (by rfl) ?_
  refine eX_then ?_
  refine cW_ret ?_
  have hq : (some y2 : Option ((Bool))) = some _ := hm
  replace hq := someE hq
  subst hq
  refine eX_ret (vs := [.bool (y2)]) [.tmp 2] (by rfl) ⟨by (show lkE _ _ _ = _); kernel_rfl, trivial⟩ ?_
  exact ⟨rfl, hB⟩
 ·have hm := condF hb1 hm
  rewrite [hb1]
  refine wS_pure 5 [(2, .bool (false)), (10, .bool (false)), (9, undef), (8, undef), (7, undef)] (by kernel_rfl) ?_
  refine wS_end (by rfl) ?_
  refine eX_then ?_
  refine cW_ret ?_
  have hq : (some false : Option ((Bool))) = some _ := hm
  replace hq := someE hq
  subst hq
  refine eX_ret (vs := [.bool (false)]) [.tmp 2] (by rfl) ⟨by (show lkE _ _ _ = _); kernel_rfl, trivial⟩ ?_
  exact ⟨rfl, hB⟩

set_option maxRecDepth 100000 in
/-- impl.noPoint -/
theorem c_impl_noPoint {w0 : World} {p0_0 : Int} {p0_1 : Int} {r : (Bool)} (hm : m_impl_noPoint p0_0 p0_1 = some r)  :
  Calls Try.prog 28 #[.agg #[.int .i64 (p0_0), .int .i64 (p0_1)]] w0 fun e w' => e = .returned (.bool (r)) ∧ Chg [] w0 w' := by
 have hB : Chg [] w0 w0 := Chg.refl _ _
 have hZ := Nat.le_refl w0.heap.size
 unfold m_impl_noPoint at hm
 refine enterE (N := 6) Try.func28 (by rfl) Try.ntmps28 (by simp) [(0, .agg #[.int .i64 (p0_0), .int .i64 (p0_1)])] (by rfl) (by kernel_rfl) (fun a => ?_)
 refine cW_seq ?_
 refine cW_region ?_
 refine wS_box (d := 1) (T := 35) (x := .agg #[.int .i64 (p0_0), .int .i64 (p0_1)]) (by kernel_rfl) ?_
 intro b1 w1 G1 F1 hc1
 replace F1 : Cl w1 b1 35 [.int .i64 (p0_0), .int .i64 (p0_1)] := F1
 replace hB := hB.inS hc1 inNil
 replace G1 := Nat.le_trans hZ G1
 replace hZ := Nat.le_trans hZ hc1.size
 refine wS_pure 1 [(2, .bool (false))] (by kernel_rfl) ?_
 refine wS_end (by rfl) ?_
 refine eX_then ?_
 refine cW_seq ?_
 refine cW_region ?_
 refine wS_loadA (d := 3) (T := 35) (ad := ⟨b1, 0, none⟩) (vs := [.int .i64 (p0_0), .int .i64 (p0_1)]) (by kernel_rfl) vt35 (fun i u hu => box_cells F1 0 hu (by rfl)) ?_
 obtain ⟨y1, hy1, hm⟩ := bindE hm
 refine wS_calls (d := 4) (f := 20) (vs := [.agg #[.int .i64 (p0_0), .int .i64 (p0_1)]]) (by kernel_rfl) ent20 (c_impl_IsPoint hy1) ?_
 rintro _ w2 ⟨rfl, hc2⟩
 replace F1 := F1.chg hc2 notNil
 replace hB := hB.inS hc2 inNil
 replace hZ := Nat.le_trans hZ hc2.size
 refine ⟨.bool (y1), rfl, ?_⟩
 refine wS_pure 2 [(2, .bool (!y1)), (5, .bool (!y1))] (by kernel_rfl) ?_
 refine wS_end (by rfl) ?_
 refine eX_then ?_
 refine cW_ret ?_
 have hq : (some (!y1) : Option ((Bool))) = some _ := hm
 replace hq := someE hq
 subst hq
 refine eX_ret (vs := [.bool (!y1)]) [.tmp 2] (by rfl) ⟨by (show lkE _ _ _ = _); kernel_rfl, trivial⟩ ?_
 exact ⟨rfl, hB⟩

set_option maxRecDepth 100000 in
/-- impl.Point] -/
theorem c_slices_Clone_impl_Point_impl_Point {w0 : World} {l0 : List (Int × Int)} {A0 : Option Addr} {cap0 : Nat} {fp0 : List Nat} {r : (List (Int × Int))} (hm : m_slices_Clone_impl_Point_impl_Point l0 = some r) (F0 : Sl 2 encII w0 fp0 A0 l0) :
  Calls Try.prog 42 #[.slice A0 (l0).length cap0] w0 fun e w' => ∃ A100 cap100 fp100, e = .returned (.slice A100 (r).length cap100) ∧ Ow 2 encII 35 w' fp100 A100 cap100 r ∧ (∀ x ∈ fp100, w0.heap.size ≤ x) ∧ Chg [] w0 w' := by
 have L0 := F0.low
 have hB : Chg [] w0 w0 := Chg.refl _ _
 have hZ := Nat.le_refl w0.heap.size
 unfold m_slices_Clone_impl_Point_impl_Point at hm
 refine enterE (N := 8) Try.func42 (by rfl) Try.ntmps42 (by simp) [(0, .slice A0 (l0).length cap0)] (by rfl) (by kernel_rfl) (fun a => ?_)
 refine cW_seq ?_
 refine cW_region ?_
 refine wS_pure 1 [(2, .slice none 0 0)] (by kernel_rfl) ?_
 refine wS_end (by rfl) ?_
 refine eX_then ?_
 refine cW_seq ?_
 refine cW_seq ?_
 refine cW_region ?_
 refine wS_pure 1 [(3, .slice A0 (l0).length cap0)] (by kernel_rfl) ?_
 rcases A0 with _ | ad1
 ·have hl1 := F0.none_nil
  subst hl1
  replace hm : (some ([])) = some _ := Eq.trans (by kernel_rfl) hm
  refine wS_pure 1 [(4, .bool (true))] (by kernel_rfl) ?_
  refine wS_end (by rfl) ?_
  refine eX_then ?_
  refine cW_cond_t (by kernel_rfl) ?_
  refine cW_seq ?_
  refine cW_region ?_
  refine wS_pure 1 [(2, .slice none 0 0)] (by kernel_rfl) ?_
  refine wS_end (by rfl) ?_
  refine eX_then ?_
  refine cW_ret ?_
  refine eX_then_ret ?_
  have hq : (some ([]) : Option ((List (Int × Int)))) = some _ := hm
  replace hq := someE hq
  subst hq
  refine eX_ret (vs := [.slice none 0 0]) [.tmp 2] (by rfl) ⟨by (show lkE _ _ _ = _); kernel_rfl, trivial⟩ ?_
  exact ⟨none, 0, [], rfl, Ow.nil _, lowNil, hB⟩
 ·skip
  refine wS_pure 1 [(4, .bool (false))] (by kernel_rfl) ?_
  refine wS_end (by rfl) ?_
  refine eX_then ?_
  refine cW_cond_f (by kernel_rfl) ?_
  refine cW_skip ?_
  refine eX_then ?_
  refine cW_seq ?_
  refine cW_region ?_
  refine wS_bs0 (α := Int × Int) (enc := encII) (d := 5) (t := 24) (T := 35) (by kernel_rfl) el24 ?_
  intro b1 w1 G1 F1 hc1
  replace F0 := F0.chg hc1 Dj.nil
  replace hB := hB.inS hc1 inNil
  replace G1 := Nat.le_trans hZ G1
  replace G1 := low1 G1
  replace hZ := Nat.le_trans hZ hc1.size
  refine wS_pure 1 [(6, .slice (some ad1) (l0).length cap0)] (by kernel_rfl) ?_
  obtain ⟨_, hk1, hm⟩ := bindE hm
  replace hk1 := apE hk1
  refine wS_appendAny (enc := encII) (l := (([] : List (Int × Int)) : List (Int × Int))) (l2 := (l0 : List (Int × Int))) (d := 7) (t := 24) (T := 35) (A := (some ⟨b1, 0, none⟩)) (A2 := (some ad1)) (cap := 0) (cap2 := cap0) (by kernel_rfl) el24 encII_ok F1 F0 hk1 ?_
  intro w2 fp1 A1 cap1 F2 hc2 hp1
  have G2 := low_ap G1 hZ hp1
  replace F0 := F0.chg hc2 (Dj.of L0 G1)
  replace hB := hB.inS hc2 (inLow G1)
  replace hZ := Nat.le_trans hZ hc2.size
  refine wS_pure 1 [(2, .slice A1 ((([] : List (Int × Int))) ++ l0).length cap1)] (by kernel_rfl) ?_
  refine wS_end (by rfl) ?_
  refine eX_then ?_
  refine cW_ret ?_
  have hq : (some ((([] : List (Int × Int))) ++ l0) : Option ((List (Int × Int)))) = some _ := hm
  replace hq := someE hq
  subst hq
  refine eX_ret (vs := [.slice A1 ((([] : List (Int × Int))) ++ l0).length cap1]) [.tmp 2] (by rfl) ⟨by (show lkE _ _ _ = _); kernel_rfl, trivial⟩ ?_
  exact ⟨A1, cap1, fp1, rfl, F2, G2, hB⟩

set_option maxRecDepth 100000 in
/-- impl.Point] -/
theorem c_slices_Compact_impl_Point_impl_Point {w0 : World} {l0 : List (Int × Int)} {A0 : Option Addr} {cap0 : Nat} {fp0 : List Nat} {r : (List (Int × Int))} (hm : m_slices_Compact_impl_Point_impl_Point l0 = some r) (F0 : Ow 2 encII 35 w0 fp0 A0 cap0 l0) (K0 : (l0).length ≤ cap0) :
  Calls Try.prog 45 #[.slice A0 (l0).length cap0] w0 fun e w' => e = .returned (.slice A0 (r).length cap0) ∧ Ow 2 encII 35 w' fp0 A0 cap0 r ∧ Chg (fp0 ++ []) w0 w' := by
 have L0 := F0.low
 have hB : Chg (fp0 ++ []) w0 w0 := Chg.refl _ _
 have hZ := Nat.le_refl w0.heap.size
 unfold m_slices_Compact_impl_Point_impl_Point at hm
 refine enterE (N := 61) Try.func45 (by rfl) Try.ntmps45 (by simp) [(0, .slice A0 (l0).length cap0)] (by rfl) (by kernel_rfl) (fun a => ?_)
 refine cW_seq ?_
 refine cW_region ?_
 refine wS_pure 1 [(2, .slice none 0 0)] (by kernel_rfl) ?_
 refine wS_end (by rfl) ?_
 refine eX_then ?_
 refine cW_seq ?_
 refine cW_seq ?_
 refine cW_region ?_
 refine wS_pure 3 [(8, .bool (decide ((((l0).length : Int)) < 2))), (7, .int .i64 (((l0).length : Int))), (6, .slice A0 (l0).length cap0)] (by kernel_rfl) ?_
 refine wS_end (by rfl) ?_
 refine eX_then ?_
 refine cW_cond (t := decide ((((l0).length : Int)) < 2)) (by kernel_rfl) (fun hb1 => ?_) (fun hb1 => ?_)
 ·have hm := condT hb1 hm
  refine cW_seq ?_
  refine cW_region ?_
  refine wS_pure 2 [(2, .slice A0 (l0).length cap0), (9, .slice A0 (l0).length cap0)] (by kernel_rfl) ?_
  refine wS_end (by rfl) ?_
  refine eX_then ?_
  refine cW_ret ?_
  refine eX_then_ret ?_
  have hq : (some l0 : Option ((List (Int × Int)))) = some _ := hm
  replace hq := someE hq
  subst hq
  refine eX_ret (vs := [.slice A0 (l0).length cap0]) [.tmp 2] (by rfl) ⟨by (show lkE _ _ _ = _); kernel_rfl, trivial⟩ ?_
  exact ⟨rfl, F0, hB⟩
 ·have hm := condF hb1 hm
  refine cW_skip ?_
  refine eX_then ?_
  refine cW_seq ?_
  refine cW_seq ?_
  refine cW_region ?_
  refine wS_pure 1 [(3, .int .i64 (1))] (by kernel_rfl) ?_
  refine wS_end (by rfl) ?_
  refine eX_then ?_
  obtain ⟨r1, hr1, hm⟩ := bindE hm
  have hm1 := hm
  refine cW_cut (fun a' w' => Sum.inl (()) = r1 ∧ Fr 61 [(0, .slice A0 (l0).length cap0)] a' ∧ Ow 2 encII 35 w' fp0 A0 cap0 l0 ∧ Chg (fp0 ++ []) w0 w' ∧ w0.heap.size ≤ w'.heap.size) ?_ ?_
  ·refine cW_block ?_
   refine cW_loop _ (fun (s1 : Int) a' w' => ∃ x1 : Int, x1 = s1 ∧ Fr 61 [(0, .slice A0 (l0).length cap0), (3, .int .i64 (x1))] a' ∧ Ow 2 encII 35 w' fp0 A0 cap0 l0 ∧ Chg (fp0 ++ []) w0 w' ∧ w0.heap.size ≤ w'.heap.size) hr1 (fun hst => ⟨1, rfl, Fr.of hst (by kernel_rfl), F0, hB, hZ⟩) ?_
   rintro _ c1 a' w1 ⟨x1, rfl, hF1, F1, hB, hZ⟩ hx1
   refine Fr.goOn hF1 (by kernel_rfl) ?_
   have hm := hx1
   unfold m_slices_Compact_impl_Point_impl_Point_s3 at hm
   refine cW_seq ?_
   refine cW_seq ?_
   refine cW_region ?_
   refine wS_pure 4 [(13, .bool (decide (x1 < (((l0).length : Int))))), (12, .int .i64 (((l0).length : Int))), (11, .slice A0 (l0).length cap0), (10, .int .i64 (x1))] (by kernel_rfl) ?_
   refine wS_end (by rfl) ?_
   refine eX_then ?_
   refine cW_cond (t := decide (x1 < (((l0).length : Int)))) (by kernel_rfl) (fun hb2 => ?_) (fun hb2 => ?_)
   ·have hm := condT hb2 hm
    refine cW_skip ?_
    refine eX_then ?_
    refine cW_seq ?_
    refine cW_block ?_
    refine cW_seq ?_
    refine cW_drawnTail [] 9 (by kernel_rfl) (by kernel_rfl) (fun w2 hc1 => ?_)
    replace F1 := F1.chg hc1 Dj.nil
    replace hB := hB.inS hc1 inNil
    replace hZ := Nat.le_trans hZ hc1.size
    have hS := Chg.refl [] w2
    have Z1 := F1
    refine wH_take [0, 1] [1, 0] [(17, .int .i64 (x1)), (16, .slice A0 (l0).length cap0)] (by kernel_rfl) (qT (qT (qB (qT (qL (qB (qT (qT qZ)))))))) (by kernel_rfl) ?_
    obtain ⟨x2, hx2, hm⟩ := bindE hm
    refine wH_idx (i := 2) (d := 18) (T := 24) (A := A0) (n := (l0).length) (cap := cap0) (kd := .i64) (m := x1) (by kernel_rfl) (qT (qT (qB (qT (qL (qB (qT (qT qZ)))))))) (by kernel_rfl) (by kernel_rfl) sl24 ((F1.sl encII_ok).is hx2) ?_
    refine wH_loadA (i := 3) (d := 19) (T := 35) (ad := (elA A0 2 (x1) 0)) (vs := [.int .i64 (x2.1), .int .i64 (x2.2)]) (by kernel_rfl) (qT (qT (qB (qT (qL (qB (qT (qT qZ)))))))) (by kernel_rfl) (by kernel_rfl) vt35 (fun W hW i u hu => Sl.cells_at ((Z1.chg hW Dj.nil).sl encII_ok) hx2 0 hu (by rfl)) ?_
    refine wH_take [4, 5, 6] [6, 5, 4, 3, 2, 1, 0] [(22, .int .i64 (wr (x1 - 1))), (21, .int .i64 (x1)), (20, .slice A0 (l0).length cap0)] (by kernel_rfl) (qT (qT (qB (qT (qL (qB (qT (qT qZ)))))))) (by kernel_rfl) ?_
    obtain ⟨x3, hx3, hm⟩ := bindE hm
    refine wH_idx (i := 7) (d := 23) (T := 24) (A := A0) (n := (l0).length) (cap := cap0) (kd := .i64) (m := wr (x1 - 1)) (by kernel_rfl) (qT (qT (qB (qT (qL (qB (qT (qT qZ)))))))) (by kernel_rfl) (by kernel_rfl) sl24 ((F1.sl encII_ok).is hx3) ?_
    refine wH_loadA (i := 8) (d := 24) (T := 35) (ad := (elA A0 2 (wr (x1 - 1)) 0)) (vs := [.int .i64 (x3.1), .int .i64 (x3.2)]) (by kernel_rfl) (qT (qT (qB (qT (qL (qB (qT (qT qZ)))))))) (by kernel_rfl) (by kernel_rfl) vt35 (fun W hW i u hu => Sl.cells_at ((Z1.chg hW Dj.nil).sl encII_ok) hx3 0 hu (by rfl)) ?_
    refine wH_done (by kernel_rfl) ?_
    refine eX_tail ?_
    refine wS_eqS (d := 25) (T := 35) (x := x2.1) (y := x2.2) (x' := x3.1) (y' := x3.2) (by kernel_rfl) eq35 ?_
    refine wS_end (by rfl) ?_
    refine eX_then ?_
    refine cW_cond (t := x2.1 == x3.1 && x2.2 == x3.2) (by kernel_rfl) (fun hb3 => ?_) (fun hb3 => ?_)
    ·have hm := condT hb3 hm
     refine cW_seq ?_
     refine cW_region ?_
     refine wS_pure 2 [(27, .int .i64 (x1)), (26, .slice A0 (l0).length cap0)] (by kernel_rfl) ?_
     obtain ⟨y1, hy1, hm⟩ := bindE hm
     refine wS_cutA (enc := encII) (l := l0) (d := 28) (T := 24) (A := A0) (cap := cap0) (vlo := some (.int .i64 (x1))) (vhi := none) (lo := x1) (hi := ((l0).length : Int)) (n := 0) (by kernel_rfl) sl24 (Or.inl rfl) (Or.inr ⟨rfl, rfl⟩) (F1.sl encII_ok) F1.cap_le hy1 ?_
     intro A1 cap1 hA1 F2 hcap1
     obtain rfl := slci_slc hy1
     have hcz1 := F1.cap_le
     refine wS_pure 1 [(4, .slice A1 (slc l0 x1 (((l0).length : Int))).length cap1)] (by kernel_rfl) ?_
     refine wS_end (by rfl) ?_
     refine eX_then ?_
     refine cW_seq ?_
     refine cW_seq ?_
     refine cW_region ?_
     refine wS_pure 1 [(5, .int .i64 (1))] (by kernel_rfl) ?_
     refine wS_end (by rfl) ?_
     refine eX_then ?_
     obtain ⟨r2, hr2, hm⟩ := bindE hm
     have hm2 := hm
     refine cW_cut (fun a' w' => ∃ x4 : Int, ∃ l1 : List (Int × Int), (x4, l1) = r2 ∧ Fr 61 [(0, .slice A0 (l1).length cap0), (3, .int .i64 (x4))] a' ∧ Ow 2 encII 35 w' fp0 A0 cap0 l1 ∧ (l1).length = (l0).length ∧ Chg (fp0 ++ []) w0 w' ∧ w0.heap.size ≤ w'.heap.size) ?_ ?_
     ·refine cW_block ?_
      refine cW_loop _ (fun (s2 : Int × Int × (List (Int × Int))) a' w' => ∃ x5 : Int, ∃ x6 : Int, ∃ l2 : List (Int × Int), (x5, x6, l2) = s2 ∧ Fr 61 [(0, .slice A0 (l2).length cap0), (3, .int .i64 (x5)), (4, .slice A1 (slc l2 x1 (((l0).length : Int))).length cap1), (5, .int .i64 (x6))] a' ∧ Ow 2 encII 35 w' fp0 A0 cap0 l2 ∧ Sl 2 encII w' fp0 A1 (slc l2 x1 (((l0).length : Int))) ∧ (l2).length = (l0).length ∧ Chg (fp0 ++ []) w0 w' ∧ w0.heap.size ≤ w'.heap.size) hr2 (fun hst => ⟨x1, 1, l0, rfl, Fr.of hst (by kernel_rfl), F1, F2, (Eq.refl (l0).length), hB, hZ⟩) ?_
      rintro _ c2 a' w3 ⟨x5, x6, l2, rfl, hF2, F3, F4, hl1, hB, hZ⟩ hx4
      refine Fr.goOn hF2 (by kernel_rfl) ?_
      have hm := hx4
      unfold m_slices_Compact_impl_Point_impl_Point_s4 at hm
      refine cW_seq ?_
      refine cW_seq ?_
      refine cW_region ?_
      refine wS_pure 4 [(32, .bool (decide (x6 < (((slc l2 x1 (((l0).length : Int))).length : Int))))), (31, .int .i64 (((slc l2 x1 (((l0).length : Int))).length : Int))), (30, .slice A1 (slc l2 x1 (((l0).length : Int))).length cap1), (29, .int .i64 (x6))] (by kernel_rfl) ?_
      refine wS_end (by rfl) ?_
      refine eX_then ?_
      refine cW_cond (t := decide (x6 < (((slc l2 x1 (((l0).length : Int))).length : Int)))) (by kernel_rfl) (fun hb4 => ?_) (fun hb4 => ?_)
      ·have hm := condT hb4 hm
       refine cW_skip ?_
       refine eX_then ?_
       refine cW_seq ?_
       refine cW_block ?_
       obtain ⟨s3, hs1, hm⟩ := bindE hm
       refine cW_cut (fun a' w' => ∃ x7 : Int, ∃ l3 : List (Int × Int), (x7, l3) = s3 ∧ Fr 61 [(0, .slice A0 (l3).length cap0), (3, .int .i64 (x7)), (4, .slice A1 (slc l3 x1 (((l0).length : Int))).length cap1), (5, .int .i64 (x6))] a' ∧ Ow 2 encII 35 w' fp0 A0 cap0 l3 ∧ Sl 2 encII w' fp0 A1 (slc l3 x1 (((l0).length : Int))) ∧ (l3).length = (l0).length ∧ Chg (fp0 ++ []) w0 w' ∧ w0.heap.size ≤ w'.heap.size) ?_ ?_
       ·have hm := hs1
        refine cW_seq ?_
        refine cW_drawnTail [] 9 (by kernel_rfl) (by kernel_rfl) (fun w4 hc2 => ?_)
        replace F3 := F3.chg hc2 Dj.nil
        replace F4 := F4.chg hc2 Dj.nil
        replace hB := hB.inS hc2 inNil
        replace hZ := Nat.le_trans hZ hc2.size
        have hS := Chg.refl [] w4
        have Z2 := F3
        have Z3 := F4
        refine wH_take [0, 1] [1, 0] [(36, .int .i64 (x6)), (35, .slice A1 (slc l2 x1 (((l0).length : Int))).length cap1)] (by kernel_rfl) (qT (qT (qT (qB (qT (qL (qB (qT (qT (qB (qT (qL (qB (qT (qT qZ))))))))))))))) (by kernel_rfl) ?_
        obtain ⟨x8, hx5, hm⟩ := bindE hm
        refine wH_idx (i := 2) (d := 37) (T := 24) (A := A1) (n := (slc l2 x1 (((l0).length : Int))).length) (cap := cap1) (kd := .i64) (m := x6) (by kernel_rfl) (qT (qT (qT (qB (qT (qL (qB (qT (qT (qB (qT (qL (qB (qT (qT qZ))))))))))))))) (by kernel_rfl) (by kernel_rfl) sl24 (F4.is hx5) ?_
        refine wH_loadA (i := 3) (d := 38) (T := 35) (ad := (elA A1 2 (x6) 0)) (vs := [.int .i64 (x8.1), .int .i64 (x8.2)]) (by kernel_rfl) (qT (qT (qT (qB (qT (qL (qB (qT (qT (qB (qT (qL (qB (qT (qT qZ))))))))))))))) (by kernel_rfl) (by kernel_rfl) vt35 (fun W hW i u hu => Sl.cells_at (Z3.chg hW Dj.nil) hx5 0 hu (by rfl)) ?_
        refine wH_take [4, 5, 6] [6, 5, 4, 3, 2, 1, 0] [(41, .int .i64 (wr (x6 - 1))), (40, .int .i64 (x6)), (39, .slice A1 (slc l2 x1 (((l0).length : Int))).length cap1)] (by kernel_rfl) (qT (qT (qT (qB (qT (qL (qB (qT (qT (qB (qT (qL (qB (qT (qT qZ))))))))))))))) (by kernel_rfl) ?_
        obtain ⟨x9, hx6, hm⟩ := bindE hm
        refine wH_idx (i := 7) (d := 42) (T := 24) (A := A1) (n := (slc l2 x1 (((l0).length : Int))).length) (cap := cap1) (kd := .i64) (m := wr (x6 - 1)) (by kernel_rfl) (qT (qT (qT (qB (qT (qL (qB (qT (qT (qB (qT (qL (qB (qT (qT qZ))))))))))))))) (by kernel_rfl) (by kernel_rfl) sl24 (F4.is hx6) ?_
        refine wH_loadA (i := 8) (d := 43) (T := 35) (ad := (elA A1 2 (wr (x6 - 1)) 0)) (vs := [.int .i64 (x9.1), .int .i64 (x9.2)]) (by kernel_rfl) (qT (qT (qT (qB (qT (qL (qB (qT (qT (qB (qT (qL (qB (qT (qT qZ))))))))))))))) (by kernel_rfl) (by kernel_rfl) vt35 (fun W hW i u hu => Sl.cells_at (Z3.chg hW Dj.nil) hx6 0 hu (by rfl)) ?_
        refine wH_done (by kernel_rfl) ?_
        refine eX_tail ?_
        refine wS_neS (d := 44) (T := 35) (x := x8.1) (y := x8.2) (x' := x9.1) (y' := x9.2) (by kernel_rfl) eq35 ?_
        refine wS_end (by rfl) ?_
        refine eX_then ?_
        refine cW_cond (t := !(x8.1 == x9.1 && x8.2 == x9.2)) (by kernel_rfl) (fun hb5 => ?_) (fun hb5 => ?_)
        ·have hm := condT hb5 hm
         refine cW_seq ?_
         refine cW_region ?_
         refine wS_pure 4 [(48, .int .i64 (x6)), (47, .slice A1 (slc l2 x1 (((l0).length : Int))).length cap1), (46, .int .i64 (x5)), (45, .slice A0 (l2).length cap0)] (by kernel_rfl) ?_
         obtain ⟨x10, hx7, hm⟩ := bindE hm
         refine wS_idx (d := 49) (T := 24) (A := A1) (n := (slc l2 x1 (((l0).length : Int))).length) (cap := cap1) (kd := .i64) (m := x6) (by kernel_rfl) sl24 (F4.is hx7) ?_
         refine wS_loadA (d := 50) (T := 35) (ad := (elA A1 2 (x6) 0)) (vs := [.int .i64 (x10.1), .int .i64 (x10.2)]) (by kernel_rfl) vt35 (fun i u hu => Sl.cells_at F4 hx7 0 hu (by rfl)) ?_
         obtain ⟨x11, hx8, hm⟩ := bindE hm
         refine wS_idx (d := 51) (T := 24) (A := A0) (n := (l2).length) (cap := cap0) (kd := .i64) (m := x5) (by kernel_rfl) sl24 ((F3.sl encII_ok).is hx8) ?_
         refine wS_storeEl (x := x11) ((x10.1, x10.2)) (T := 35) (U := 35) (cap := cap0) (j := 0) (A := A0) (v := .agg #[.int .i64 (x10.1), .int .i64 (x10.2)]) (vs := [.int .i64 (x10.1), .int .i64 (x10.2)]) (m := x5) (by kernel_rfl) (by rfl) sz35 (by rfl) encII_ok F3 hx8 (by simp only [List.length_cons, List.length_nil]; omega) (by rfl) ?_
         intro w5 F5 hc3
         replace hB := hB.inS hc3 (inMem (fun x hx => (List.mem_append_left _ hx)))
         replace hZ := Nat.le_trans hZ hc3.size
         clear F3
         have hl2 := (show (l2.set (Int.toNat x5) ((x10.1, x10.2))).length = (l2).length from List.length_set ..).trans hl1
         rewrite [show (l2).length = (l2.set (Int.toNat x5) ((x10.1, x10.2))).length from (List.length_set ..).symm]
         have F6 := Sl.recut (F5.sl encII_ok) hA1 hy1 hcz1 (hl2.trans (Eq.refl (l0).length).symm)
         first | rewrite [show (slc l2 x1 (((l0).length : Int))).length = (slc (l2.set (Int.toNat x5) ((x10.1, x10.2))) x1 (((l0).length : Int))).length from (slc_length (show (l2.set (Int.toNat x5) ((x10.1, x10.2))).length = (l2).length from List.length_set ..)).symm] | skip
         refine wS_end (by rfl) ?_
         refine eX_then ?_
         refine cW_prune [(0, .slice A0 (l2.set (Int.toNat x5) ((x10.1, x10.2))).length cap0), (3, .int .i64 (x5)), (4, .slice A1 (slc (l2.set (Int.toNat x5) ((x10.1, x10.2))) x1 (((l0).length : Int))).length cap1), (5, .int .i64 (x6))] (by kernel_rfl) (by kernel_rfl) (fun a1 => ?_)
         refine cW_region ?_
         refine wS_pure 3 [(3, .int .i64 (wr (x5 + 1))), (53, .int .i64 (wr (x5 + 1))), (52, .int .i64 (x5))] (by kernel_rfl) ?_
         refine wS_end (by rfl) ?_
         have hq : (some ((wr (x5 + 1), l2.set (Int.toNat x5) ((x10.1, x10.2)))) : Option (Int × (List (Int × Int)))) = some _ := hm
         replace hq := someE hq
         subst hq
         exact eX_J (fun hst => ⟨wr (x5 + 1), l2.set (Int.toNat x5) ((x10.1, x10.2)), rfl, Fr.of hst (by kernel_rfl), F5, F6, hl2, hB, hZ⟩)
        ·have hm := condF hb5 hm
         refine cW_skip ?_
         have hq : (some ((x5, l2)) : Option (Int × (List (Int × Int)))) = some _ := hm
         replace hq := someE hq
         subst hq
         exact eX_J (fun hst => ⟨x5, l2, rfl, Fr.of hst (by kernel_rfl), F3, F4, hl1, hB, hZ⟩)
       ·rintro a' w6 ⟨x7, l3, hJ, hF3, F7, F8, hl3, hB, hZ⟩
        subst hJ
        refine Fr.goX hF3 (by kernel_rfl) ?_
        refine eX_block ?_
        refine eX_then ?_
        refine cW_region ?_
        refine wS_pure 3 [(5, .int .i64 (wr (x6 + 1))), (34, .int .i64 (wr (x6 + 1))), (33, .int .i64 (x6))] (by kernel_rfl) ?_
        refine wS_end (by rfl) ?_
        have hq : (some (Ctl.next ((x7, wr (x6 + 1), l3))) : Option (Ctl (Int × Int × (List (Int × Int))) (Int × (List (Int × Int))))) = some _ := hm
        replace hq := someE hq
        subst hq
        exact eX_next hx4 (fun hst => ⟨x7, wr (x6 + 1), l3, rfl, Fr.of hst (by kernel_rfl), F7, F8, hl3, hB, hZ⟩)
      ·have hm := condF hb4 hm
       refine cW_exit ?_
       refine eX_then_exit ?_
       have hq : (some (Ctl.out ((x5, l2))) : Option (Ctl (Int × Int × (List (Int × Int))) (Int × (List (Int × Int))))) = some _ := hm
       replace hq := someE hq
       subst hq
       refine eX_outX hx4 (fun hr3 => ?_)
       replace hr3 := hr3.symm
       subst hr3
       refine eX_block_hit ?_
       exact eX_J (fun hst => ⟨x5, l2, rfl, Fr.of hst (by kernel_rfl), F3, hl1, hB, hZ⟩)
     ·rintro a' w7 ⟨x4, l1, hJ, hF4, F9, hl4, hB, hZ⟩
      subst hJ
      refine Fr.goX hF4 (by kernel_rfl) ?_
      refine eX_then ?_
      refine cW_seq ?_
      refine cW_region ?_
      refine wS_pure 2 [(55, .int .i64 (x4)), (54, .slice A0 (l1).length cap0)] (by kernel_rfl) ?_
      obtain ⟨y2, hy2, hm⟩ := bindE hm
      refine wS_cutA (enc := encII) (l := l1) (d := 56) (T := 24) (A := A0) (cap := cap0) (vlo := some (.int .i64 (x4))) (vhi := none) (lo := x4) (hi := ((l1).length : Int)) (n := 0) (by kernel_rfl) sl24 (Or.inl rfl) (Or.inr ⟨rfl, rfl⟩) (F9.sl encII_ok) F9.cap_le hy2 ?_
      intro A2 cap2 hA2 F10 hcap2
      obtain rfl := slci_slc hy2
      have hcz2 := F9.cap_le
      refine wS_clear (A' := A2) (c' := cap2) (x0 := ((0, 0) : Int × Int)) (l := l1) (l0 := l1) (T := 24) (A := A0) (cap := cap0) (lo := x4) (by kernel_rfl) el24 encII_ok (by rfl) (by kernel_rfl) F9 hA2 hy2 rfl ?_
      intro w8 F11 hlc1 hc4
      replace hB := hB.inS hc4 (inMem (fun x hx => (List.mem_append_left _ hx)))
      replace hZ := Nat.le_trans hZ hc4.size
      clear F9
      have hl5 := hlc1.trans hl4
      rewrite [show (l1).length = (clr ((0, 0) : Int × Int) l1 x4).length from hlc1.symm]
      refine wS_end (by rfl) ?_
      refine eX_then ?_
      refine cW_seq ?_
      refine cW_region ?_
      refine wS_pure 2 [(58, .int .i64 (x4)), (57, .slice A0 (clr ((0, 0) : Int × Int) l1 x4).length cap0)] (by kernel_rfl) ?_
      obtain ⟨y3, hy3, hm⟩ := bindE hm
      refine wS_prefix (k := 2) (enc := encII) (U := 35) (l := clr ((0, 0) : Int × Int) l1 x4) (d := 59) (T := 24) (A := A0) (cap := cap0) (hi := x4) (by kernel_rfl) sl24 encII_ok F11 F11.cap_le hy3 ?_
      intro hpe F12
      subst hpe
      refine wS_pure 1 [(2, .slice A0 ((clr ((0, 0) : Int × Int) l1 x4).take (Int.toNat x4)).length cap0)] (by kernel_rfl) ?_
      refine wS_end (by rfl) ?_
      refine eX_then ?_
      refine cW_ret ?_
      refine eX_block_ret ?_
      refine eX_then_ret ?_
      have hq : (some (Ctl.out (Sum.inr ((clr ((0, 0) : Int × Int) l1 x4).take (Int.toNat x4)))) : Option (Ctl (Int) (Sum (Unit) ((List (Int × Int)))))) = some _ := hm
      replace hq := someE hq
      subst hq
      refine eX_outR hx1 (fun hr => ?_)
      subst hr
      refine eX_block_ret ?_
      refine eX_then_ret ?_
      refine eX_then_ret ?_
      have hq : (some ((clr ((0, 0) : Int × Int) l1 x4).take (Int.toNat x4)) : Option ((List (Int × Int)))) = some _ := hm1
      replace hq := someE hq
      subst hq
      refine eX_ret (vs := [.slice A0 ((clr ((0, 0) : Int × Int) l1 x4).take (Int.toNat x4)).length cap0]) [.tmp 2] (by rfl) ⟨by (show lkE _ _ _ = _); kernel_rfl, trivial⟩ ?_
      exact ⟨rfl, F12, hB⟩
    ·have hm := condF hb3 hm
     refine cW_skip ?_
     refine eX_block ?_
     refine eX_then ?_
     refine cW_region ?_
     refine wS_pure 3 [(3, .int .i64 (wr (x1 + 1))), (15, .int .i64 (wr (x1 + 1))), (14, .int .i64 (x1))] (by kernel_rfl) ?_
     refine wS_end (by rfl) ?_
     have hq : (some (Ctl.next (wr (x1 + 1))) : Option (Ctl (Int) (Sum (Unit) ((List (Int × Int)))))) = some _ := hm
     replace hq := someE hq
     subst hq
     exact eX_next hx1 (fun hst => ⟨wr (x1 + 1), rfl, Fr.of hst (by kernel_rfl), F1, hB, hZ⟩)
   ·have hm := condF hb2 hm
    refine cW_exit ?_
    refine eX_then_exit ?_
    have hq : (some (Ctl.out (Sum.inl (()))) : Option (Ctl (Int) (Sum (Unit) ((List (Int × Int)))))) = some _ := hm
    replace hq := someE hq
    subst hq
    refine eX_outX hx1 (fun hr4 => ?_)
    replace hr4 := hr4.symm
    subst hr4
    refine eX_block_hit ?_
    exact eX_J (fun hst => ⟨rfl, Fr.of hst (by kernel_rfl), F1, hB, hZ⟩)
  ·rintro a' w9 ⟨hJ, hF5, F13, hB, hZ⟩
   subst hJ
   refine Fr.goX hF5 (by kernel_rfl) ?_
   refine eX_then ?_
   refine cW_seq ?_
   refine cW_region ?_
   refine wS_pure 2 [(2, .slice A0 (l0).length cap0), (60, .slice A0 (l0).length cap0)] (by kernel_rfl) ?_
   refine wS_end (by rfl) ?_
   refine eX_then ?_
   refine cW_ret ?_
   have hq : (some l0 : Option ((List (Int × Int)))) = some _ := hm
   replace hq := someE hq
   subst hq
   refine eX_ret (vs := [.slice A0 (l0).length cap0]) [.tmp 2] (by rfl) ⟨by (show lkE _ _ _ = _); kernel_rfl, trivial⟩ ?_
   exact ⟨rfl, F13, hB⟩

set_option maxRecDepth 100000 in
/-- impl.sorted -/
theorem c_impl_sorted {w0 : World} {l0 : List (Int × Int)} {A0 : Option Addr} {cap0 : Nat} {fp0 : List Nat} {r : (List (Int × Int))} (hm : m_impl_sorted l0 = some r) (F0 : Sl 2 encII w0 fp0 A0 l0) :
  Calls Try.prog 29 #[.slice A0 (l0).length cap0] w0 fun e w' => ∃ A100 cap100 fp100, e = .returned (.slice A100 (r).length cap100) ∧ Ow 2 encII 35 w' fp100 A100 cap100 r ∧ (∀ x ∈ fp100, w0.heap.size ≤ x) ∧ Chg [] w0 w' := by
 have L0 := F0.low
 have hB : Chg [] w0 w0 := Chg.refl _ _
 have hZ := Nat.le_refl w0.heap.size
 unfold m_impl_sorted at hm
 refine enterE (N := 10) Try.func29 (by rfl) Try.ntmps29 (by simp) [(0, .slice A0 (l0).length cap0)] (by rfl) (by kernel_rfl) (fun a => ?_)
 refine cW_seq ?_
 refine cW_region ?_
 refine wS_pure 1 [(2, .slice none 0 0)] (by kernel_rfl) ?_
 refine wS_end (by rfl) ?_
 refine eX_then ?_
 refine cW_seq ?_
 refine cW_region ?_
 refine wS_pure 1 [(4, .slice A0 (l0).length cap0)] (by kernel_rfl) ?_
 obtain ⟨y1, hy1, hm⟩ := bindE hm
 refine wS_calls (d := 5) (f := 42) (vs := [.slice A0 (l0).length cap0]) (by kernel_rfl) ent42 (c_slices_Clone_impl_Point_impl_Point hy1 F0) ?_
 rintro _ w1 ⟨A1, cap1, fp1, rfl, F1, G1, hc1⟩
 replace F0 := F0.chg hc1 Dj.nil
 replace hB := hB.inS hc1 inNil
 replace G1 := low_le hZ G1
 replace hZ := Nat.le_trans hZ hc1.size
 refine ⟨.slice A1 (y1).length cap1, rfl, ?_⟩
 refine wS_pure 1 [(3, .slice A1 (y1).length cap1)] (by kernel_rfl) ?_
 refine wS_end (by rfl) ?_
 refine eX_then ?_
 refine cW_seq ?_
 refine cW_region ?_
 refine wS_pure 1 [(6, .slice A1 (y1).length cap1)] (by kernel_rfl) ?_
 obtain ⟨y2, hy2, hm⟩ := bindE hm
 refine wS_calls (d := 7) (f := 43) (vs := [.slice A1 (y1).length cap1, .func (.func 44) #[] #[]]) (by kernel_rfl) ent43 (c_slices_SortFunc_impl_Point_impl_Point_impl_pointOrder hy2 F1) ?_
 rintro _ w2 ⟨rfl, F2, hl1, hc2⟩
 replace F0 := F0.chg hc2 (Dj.app (Dj.of L0 G1) Dj.nil)
 replace hB := hB.inS hc2 (inApp (inLow G1) inNil)
 replace hZ := Nat.le_trans hZ hc2.size
 clear F1
 refine ⟨.tuple #[], rfl, ?_⟩
 rewrite [(show (y1).length = (y2).length from hl1.symm)]
 refine wS_end (by rfl) ?_
 refine eX_then ?_
 refine cW_seq ?_
 refine cW_region ?_
 refine wS_pure 1 [(8, .slice A1 (y2).length cap1)] (by kernel_rfl) ?_
 obtain ⟨y3, hy3, hm⟩ := bindE hm
 refine wS_calls (d := 9) (f := 45) (vs := [.slice A1 (y2).length cap1]) (by kernel_rfl) ent45 (c_slices_Compact_impl_Point_impl_Point hy3 F2 F2.cap_le) ?_
 rintro _ w3 ⟨rfl, F3, hc3⟩
 replace F0 := F0.chg hc3 (Dj.app (Dj.of L0 G1) Dj.nil)
 replace hB := hB.inS hc3 (inApp (inLow G1) inNil)
 clear F2
 replace hZ := Nat.le_trans hZ hc3.size
 refine ⟨.slice A1 (y3).length cap1, rfl, ?_⟩
 refine wS_pure 1 [(2, .slice A1 (y3).length cap1)] (by kernel_rfl) ?_
 refine wS_end (by rfl) ?_
 refine eX_then ?_
 refine cW_ret ?_
 have hq : (some y3 : Option ((List (Int × Int)))) = some _ := hm
 replace hq := someE hq
 subst hq
 refine eX_ret (vs := [.slice A1 (y3).length cap1]) [.tmp 2] (by rfl) ⟨by (show lkE _ _ _ = _); kernel_rfl, trivial⟩ ?_
 exact ⟨A1, cap1, fp1, rfl, F3, G1, hB⟩

set_option maxRecDepth 100000 in
/-- impl.Point] -/
theorem c_slices_IndexFunc_impl_Point_impl_Point_impl_noPoint {w0 : World} {l0 : List (Int × Int)} {A0 : Option Addr} {cap0 : Nat} {fp0 : List Nat} {r : (Int)} (hm : m_slices_IndexFunc_impl_Point_impl_Point_impl_noPoint l0 = some r) (F0 : Sl 2 encII w0 fp0 A0 l0) :
  Calls Try.prog 41 #[.slice A0 (l0).length cap0, .func (.func 28) #[] #[]] w0 fun e w' => e = .returned (.int .i64 (r)) ∧ Chg [] w0 w' := by
 have L0 := F0.low
 have hB : Chg [] w0 w0 := Chg.refl _ _
 have hZ := Nat.le_refl w0.heap.size
 unfold m_slices_IndexFunc_impl_Point_impl_Point_impl_noPoint at hm
 refine enterE (N := 19) Try.func41 (by rfl) Try.ntmps41 (by simp) [(0, .slice A0 (l0).length cap0), (1, .func (.func 28) #[] #[])] (by rfl) (by kernel_rfl) (fun a => ?_)
 refine cW_seq ?_
 refine cW_region ?_
 refine wS_pure 1 [(4, .int .i64 (0))] (by kernel_rfl) ?_
 refine wS_end (by rfl) ?_
 refine eX_then ?_
 refine cW_seq ?_
 refine cW_seq ?_
 refine cW_region ?_
 refine wS_pure 3 [(8, .int .i64 (0)), (7, .int .i64 (((l0).length : Int))), (6, .slice A0 (l0).length cap0)] (by kernel_rfl) ?_
 refine wS_end (by rfl) ?_
 refine eX_then ?_
 obtain ⟨r1, hr1, hm⟩ := bindE hm
 have hm1 := hm
 refine cW_cut (fun a' w' => Sum.inl (()) = r1 ∧ Fr 19 [] a' ∧ Chg [] w0 w' ∧ w0.heap.size ≤ w'.heap.size) ?_ ?_
 ·refine cW_block ?_
  refine cW_loop _ (fun (s1 : Int) a' w' => ∃ x1 : Int, x1 = s1 ∧ Fr 19 [(0, .slice A0 (l0).length cap0), (1, .func (.func 28) #[] #[]), (7, .int .i64 (((l0).length : Int))), (8, .int .i64 (x1))] a' ∧ Sl 2 encII w' fp0 A0 l0 ∧ Chg [] w0 w' ∧ w0.heap.size ≤ w'.heap.size) hr1 (fun hst => ⟨0, rfl, Fr.of hst (by kernel_rfl), F0, hB, hZ⟩) ?_
  rintro _ c1 a' w1 ⟨x1, rfl, hF1, F1, hB, hZ⟩ hx1
  refine Fr.goOn hF1 (by kernel_rfl) ?_
  have hm := hx1
  unfold m_slices_IndexFunc_impl_Point_impl_Point_impl_noPoint_s1 at hm
  refine cW_seq ?_
  refine cW_region ?_
  refine wS_pure 1 [(9, .bool (decide (x1 < (((l0).length : Int)))))] (by kernel_rfl) ?_
  refine wS_end (by rfl) ?_
  refine eX_then ?_
  refine cW_seq ?_
  refine cW_cond (t := decide (x1 < (((l0).length : Int)))) (by kernel_rfl) (fun hb1 => ?_) (fun hb1 => ?_)
  ·have hm := condT hb1 hm
   refine cW_skip ?_
   refine eX_then ?_
   refine cW_seq ?_
   refine cW_block ?_
   refine cW_seq ?_
   refine cW_region ?_
   refine wS_pure 2 [(5, .int .i64 (x1)), (10, .int .i64 (x1))] (by kernel_rfl) ?_
   refine wS_end (by rfl) ?_
   refine eX_then ?_
   refine cW_seq ?_
   refine cW_region ?_
   refine wS_pure 3 [(13, .int .i64 (x1)), (12, .slice A0 (l0).length cap0), (11, .func (.func 28) #[] #[])] (by kernel_rfl) ?_
   obtain ⟨x2, hx2, hm⟩ := bindE hm
   refine wS_idx (d := 14) (T := 24) (A := A0) (n := (l0).length) (cap := cap0) (kd := .i64) (m := x1) (by kernel_rfl) sl24 (F1.is hx2) ?_
   refine wS_loadA (d := 15) (T := 35) (ad := (elA A0 2 (x1) 0)) (vs := [.int .i64 (x2.1), .int .i64 (x2.2)]) (by kernel_rfl) vt35 (fun i u hu => Sl.cells_at F1 hx2 0 hu (by rfl)) ?_
   obtain ⟨y1, hy1, hm⟩ := bindE hm
   refine wS_calls (d := 16) (f := 28) (vs := [.agg #[.int .i64 (x2.1), .int .i64 (x2.2)]]) (by kernel_rfl) ent28 (c_impl_noPoint hy1) ?_
   rintro _ w2 ⟨rfl, hc1⟩
   replace F1 := F1.chg hc1 Dj.nil
   replace hB := hB.inS hc1 inNil
   replace hZ := Nat.le_trans hZ hc1.size
   refine ⟨.bool (y1), rfl, ?_⟩
   refine wS_end (by rfl) ?_
   refine eX_then ?_
   refine cW_cond (t := y1) (by kernel_rfl) (fun hb2 => ?_) (fun hb2 => ?_)
   ·have hm := condT hb2 hm
    refine cW_seq ?_
    refine cW_region ?_
    refine wS_pure 2 [(4, .int .i64 (x1)), (17, .int .i64 (x1))] (by kernel_rfl) ?_
    refine wS_end (by rfl) ?_
    refine eX_then ?_
    refine cW_ret ?_
    refine eX_block_ret ?_
    refine eX_then_ret ?_
    have hq : (some (Ctl.out (Sum.inr x1)) : Option (Ctl (Int) (Sum (Unit) ((Int))))) = some _ := hm
    replace hq := someE hq
    subst hq
    refine eX_outR hx1 (fun hr => ?_)
    subst hr
    refine eX_block_ret ?_
    refine eX_then_ret ?_
    refine eX_then_ret ?_
    have hq : (some x1 : Option ((Int))) = some _ := hm1
    replace hq := someE hq
    subst hq
    refine eX_ret (vs := [.int .i64 (x1)]) [.tmp 4] (by rfl) ⟨by (show lkE _ _ _ = _); kernel_rfl, trivial⟩ ?_
    exact ⟨rfl, hB⟩
   ·have hm := condF hb2 hm
    refine cW_skip ?_
    refine eX_block ?_
    refine eX_then ?_
    refine cW_region ?_
    refine wS_pure 2 [(8, .int .i64 (wr (x1 + 1))), (18, .int .i64 (wr (x1 + 1)))] (by kernel_rfl) ?_
    refine wS_end (by rfl) ?_
    have hq : (some (Ctl.next (wr (x1 + 1))) : Option (Ctl (Int) (Sum (Unit) ((Int))))) = some _ := hm
    replace hq := someE hq
    subst hq
    exact eX_next hx1 (fun hst => ⟨wr (x1 + 1), rfl, Fr.of hst (by kernel_rfl), F1, hB, hZ⟩)
  ·have hm := condF hb1 hm
   refine cW_exit ?_
   refine eX_then_exit ?_
   have hq : (some (Ctl.out (Sum.inl (()))) : Option (Ctl (Int) (Sum (Unit) ((Int))))) = some _ := hm
   replace hq := someE hq
   subst hq
   refine eX_outX hx1 (fun hr2 => ?_)
   replace hr2 := hr2.symm
   subst hr2
   refine eX_block_hit ?_
   exact eX_J (fun hst => ⟨rfl, Fr.of hst (by kernel_rfl), hB, hZ⟩)
 ·rintro a' w3 ⟨hJ, hF2, hB, hZ⟩
  subst hJ
  refine Fr.goX hF2 (by kernel_rfl) ?_
  refine eX_then ?_
  refine cW_seq ?_
  refine cW_region ?_
  refine wS_pure 1 [(4, .int .i64 ((-1)))] (by kernel_rfl) ?_
  refine wS_end (by rfl) ?_
  refine eX_then ?_
  refine cW_ret ?_
  have hq : (some ((-1)) : Option ((Int))) = some _ := hm
  replace hq := someE hq
  subst hq
  refine eX_ret (vs := [.int .i64 ((-1))]) [.tmp 4] (by rfl) ⟨by (show lkE _ _ _ = _); kernel_rfl, trivial⟩ ?_
  exact ⟨rfl, hB⟩

set_option maxRecDepth 100000 in
/-- impl.Point] -/
theorem c_slices_ContainsFunc_impl_Point_impl_Point_impl_noPoint {w0 : World} {l0 : List (Int × Int)} {A0 : Option Addr} {cap0 : Nat} {fp0 : List Nat} {r : (Bool)} (hm : m_slices_ContainsFunc_impl_Point_impl_Point_impl_noPoint l0 = some r) (F0 : Sl 2 encII w0 fp0 A0 l0) :
  Calls Try.prog 27 #[.slice A0 (l0).length cap0, .func (.func 28) #[] #[]] w0 fun e w' => e = .returned (.bool (r)) ∧ Chg [] w0 w' := by
 have L0 := F0.low
 have hB : Chg [] w0 w0 := Chg.refl _ _
 have hZ := Nat.le_refl w0.heap.size
 unfold m_slices_ContainsFunc_impl_Point_impl_Point_impl_noPoint at hm
 refine enterE (N := 9) Try.func27 (by rfl) Try.ntmps27 (by simp) [(0, .slice A0 (l0).length cap0), (1, .func (.func 28) #[] #[])] (by rfl) (by kernel_rfl) (fun a => ?_)
 refine cW_seq ?_
 refine cW_region ?_
 refine wS_pure 1 [(4, .bool (false))] (by kernel_rfl) ?_
 refine wS_end (by rfl) ?_
 refine eX_then ?_
 refine cW_seq ?_
 refine cW_region ?_
 refine wS_pure 2 [(6, .func (.func 28) #[] #[]), (5, .slice A0 (l0).length cap0)] (by kernel_rfl) ?_
 obtain ⟨y1, hy1, hm⟩ := bindE hm
 refine wS_calls (d := 7) (f := 41) (vs := [.slice A0 (l0).length cap0, .func (.func 28) #[] #[]]) (by kernel_rfl) ent41 (c_slices_IndexFunc_impl_Point_impl_Point_impl_noPoint hy1 F0) ?_
 rintro _ w1 ⟨rfl, hc1⟩
 replace F0 := F0.chg hc1 Dj.nil
 replace hB := hB.inS hc1 inNil
 replace hZ := Nat.le_trans hZ hc1.size
 refine ⟨.int .i64 (y1), rfl, ?_⟩
 refine wS_pure 2 [(4, .bool (decide (y1 ≥ 0))), (8, .bool (decide (y1 ≥ 0)))] (by kernel_rfl) ?_
 refine wS_end (by rfl) ?_
 refine eX_then ?_
 refine cW_ret ?_
 have hq : (some (decide (y1 ≥ 0)) : Option ((Bool))) = some _ := hm
 replace hq := someE hq
 subst hq
 refine eX_ret (vs := [.bool (decide (y1 ≥ 0))]) [.tmp 4] (by rfl) ⟨by (show lkE _ _ _ = _); kernel_rfl, trivial⟩ ?_
 exact ⟨rfl, hB⟩

set_option maxRecDepth 100000 in
/-- impl.pinsOk -/
theorem c_impl_pinsOk {w0 : World} {l0 : List (Int × Int)} {A0 : Option Addr} {cap0 : Nat} {fp0 : List Nat} {p1 : Int} {r : (Bool)} (hm : m_impl_pinsOk l0 p1 = some r) (F0 : Sl 2 encII w0 fp0 A0 l0) :
  Calls Try.prog 17 #[.slice A0 (l0).length cap0, .int .i64 (p1)] w0 fun e w' => e = .returned (.bool (r)) ∧ Chg [] w0 w' := by
 have L0 := F0.low
 have hB : Chg [] w0 w0 := Chg.refl _ _
 have hZ := Nat.le_refl w0.heap.size
 unfold m_impl_pinsOk at hm
 refine enterE (N := 27) Try.func17 (by rfl) Try.ntmps17 (by simp) [(0, .slice A0 (l0).length cap0), (1, .int .i64 (p1))] (by rfl) (by kernel_rfl) (fun a => ?_)
 refine cW_seq ?_
 refine cW_region ?_
 refine wS_pure 1 [(4, .bool (false))] (by kernel_rfl) ?_
 refine wS_end (by rfl) ?_
 refine eX_then ?_
 refine cW_seq ?_
 refine cW_region ?_
 refine wS_pure 4 [(8, .bool (decide ((((l0).length : Int)) ≥ 1))), (7, .bool (decide ((((l0).length : Int)) ≥ 1))), (6, .int .i64 (((l0).length : Int))), (5, .slice A0 (l0).length cap0)] (by kernel_rfl) ?_
 refine wS_bool (decide ((((l0).length : Int)) ≥ 1)) (fun hb1 => ?_) (fun hb1 => ?_)
 ·have hm := condT hb1 hm
  rewrite [hb1]
  refine wS_pure 6 [(14, .bool (decide ((((l0).length : Int)) ≤ p1))), (13, .bool (decide ((((l0).length : Int)) ≤ p1))), (12, .bool (decide ((((l0).length : Int)) ≤ p1))), (11, .int .i64 (p1)), (10, .int .i64 (((l0).length : Int))), (9, .slice A0 (l0).length cap0)] (by kernel_rfl) ?_
  refine wS_bool (decide ((((l0).length : Int)) ≤ p1)) (fun hb2 => ?_) (fun hb2 => ?_)
  ·have hm := condT hb2 hm
   rewrite [hb2]
   refine wS_pure 1 [(15, .slice A0 (l0).length cap0)] (by kernel_rfl) ?_
   obtain ⟨y1, hy1, hm⟩ := bindE hm
   refine wS_calls (d := 16) (f := 27) (vs := [.slice A0 (l0).length cap0, .func (.func 28) #[] #[]]) (by kernel_rfl) ent27 (c_slices_ContainsFunc_impl_Point_impl_Point_impl_noPoint hy1 F0) ?_
   rintro _ w1 ⟨rfl, hc1⟩
   replace F0 := F0.chg hc1 Dj.nil
   replace hB := hB.inS hc1 inNil
   replace hZ := Nat.le_trans hZ hc1.size
   refine ⟨.bool (y1), rfl, ?_⟩
   refine wS_pure 3 [(19, .bool (!y1)), (18, .bool (!y1)), (17, .bool (!y1))] (by kernel_rfl) ?_
   refine wS_bool (!y1) (fun hb3 => ?_) (fun hb3 => ?_)
   ·have hm := condT hb3 hm
    rewrite [hb3]
    refine wS_pure 1 [(20, .slice A0 (l0).length cap0)] (by kernel_rfl) ?_
    obtain ⟨y2, hy2, hm⟩ := bindE hm
    refine wS_calls (d := 21) (f := 29) (vs := [.slice A0 (l0).length cap0]) (by kernel_rfl) ent29 (c_impl_sorted hy2 F0) ?_
    rintro _ w2 ⟨A1, cap1, fp1, rfl, F1, G1, hc2⟩
    replace F0 := F0.chg hc2 Dj.nil
    replace hB := hB.inS hc2 inNil
    replace G1 := low_le hZ G1
    replace hZ := Nat.le_trans hZ hc2.size
    refine ⟨.slice A1 (y2).length cap1, rfl, ?_⟩
    refine wS_pure 6 [(4, .bool ((((y2).length : Int)) == (((l0).length : Int)))), (26, .bool ((((y2).length : Int)) == (((l0).length : Int)))), (25, .bool ((((y2).length : Int)) == (((l0).length : Int)))), (24, .int .i64 (((l0).length : Int))), (23, .slice A0 (l0).length cap0), (22, .int .i64 (((y2).length : Int)))] (by kernel_rfl) ?_
    refine wS_end (by rfl) ?_
    refine eX_then ?_
    refine cW_prune [(4, .bool ((((y2).length : Int)) == (((l0).length : Int))))] (by kernel_rfl) (by kernel_rfl) (fun a1 => ?_)
    refine cW_ret ?_
    have hq : (some ((((y2).length : Int)) == (((l0).length : Int))) : Option ((Bool))) = some _ := hm
    replace hq := someE hq
    subst hq
    refine eX_ret (vs := [.bool ((((y2).length : Int)) == (((l0).length : Int)))]) [.tmp 4] (by rfl) ⟨by (show lkE _ _ _ = _); kernel_rfl, trivial⟩ ?_
    exact ⟨rfl, hB⟩
   ·have hm := condF hb3 hm
    rewrite [hb3]
    refine wS_pure 8 [(4, .bool (false)), (26, .bool (false)), (25, undef), (24, undef), (23, undef), (22, undef), (21, undef), (20, undef)] (by kernel_rfl) ?_
    refine wS_end (by rfl) ?_
    refine eX_then ?_
    refine cW_prune [(4, .bool (false))] (by kernel_rfl) (by kernel_rfl) (fun a2 => ?_)
    refine cW_ret ?_
    have hq : (some false : Option ((Bool))) = some _ := hm
    replace hq := someE hq
    subst hq
    refine eX_ret (vs := [.bool (false)]) [.tmp 4] (by rfl) ⟨by (show lkE _ _ _ = _); kernel_rfl, trivial⟩ ?_
    exact ⟨rfl, hB⟩
  ·have hm := condF hb2 hm
   rewrite [hb2]
   refine wS_pure 13 [(4, .bool (false)), (26, .bool (false)), (25, undef), (24, undef), (23, undef), (22, undef), (21, undef), (20, undef), (19, .bool (false)), (18, .bool (false)), (17, undef), (16, undef), (15, undef)] (by kernel_rfl) ?_
   refine wS_end (by rfl) ?_
   refine eX_then ?_
   refine cW_prune [(4, .bool (false))] (by kernel_rfl) (by kernel_rfl) (fun a3 => ?_)
   refine cW_ret ?_
   have hq : (some false : Option ((Bool))) = some _ := hm
   replace hq := someE hq
   subst hq
   refine eX_ret (vs := [.bool (false)]) [.tmp 4] (by rfl) ⟨by (show lkE _ _ _ = _); kernel_rfl, trivial⟩ ?_
   exact ⟨rfl, hB⟩
 ·have hm := condF hb1 hm
  rewrite [hb1]
  refine wS_pure 19 [(4, .bool (false)), (26, .bool (false)), (25, undef), (24, undef), (23, undef), (22, undef), (21, undef), (20, undef), (19, .bool (false)), (18, .bool (false)), (17, undef), (16, undef), (15, undef), (14, .bool (false)), (13, .bool (false)), (12, undef), (11, undef), (10, undef), (9, undef)] (by kernel_rfl) ?_
  refine wS_end (by rfl) ?_
  refine eX_then ?_
  refine cW_prune [(4, .bool (false))] (by kernel_rfl) (by kernel_rfl) (fun a4 => ?_)
  refine cW_ret ?_
  have hq : (some false : Option ((Bool))) = some _ := hm
  replace hq := someE hq
  subst hq
  refine eX_ret (vs := [.bool (false)]) [.tmp 4] (by rfl) ⟨by (show lkE _ _ _ = _); kernel_rfl, trivial⟩ ?_
  exact ⟨rfl, hB⟩

set_option maxRecDepth 100000 in
/-- impl.ArePins -/
theorem c_impl_ArePins {w0 : World} {l0 : List (Int × Int)} {A0 : Option Addr} {cap0 : Nat} {fp0 : List Nat} {r : (Bool)} (hm : m_impl_ArePins l0 = some r) (F0 : Sl 2 encII w0 fp0 A0 l0) :
  Calls Try.prog 8 #[.slice A0 (l0).length cap0] w0 fun e w' => e = .returned (.bool (r)) ∧ Chg [] w0 w' := by
 have L0 := F0.low
 have hB : Chg [] w0 w0 := Chg.refl _ _
 have hZ := Nat.le_refl w0.heap.size
 unfold m_impl_ArePins at hm
 refine enterE (N := 5) Try.func8 (by rfl) Try.ntmps8 (by simp) [(0, .slice A0 (l0).length cap0)] (by rfl) (by kernel_rfl) (fun a => ?_)
 refine cW_seq ?_
 refine cW_region ?_
 refine wS_pure 1 [(2, .bool (false))] (by kernel_rfl) ?_
 refine wS_end (by rfl) ?_
 refine eX_then ?_
 refine cW_seq ?_
 refine cW_region ?_
 refine wS_pure 1 [(3, .slice A0 (l0).length cap0)] (by kernel_rfl) ?_
 obtain ⟨y1, hy1, hm⟩ := bindE hm
 refine wS_calls (d := 4) (f := 17) (vs := [.slice A0 (l0).length cap0, .int .i64 (20)]) (by kernel_rfl) ent17 (c_impl_pinsOk hy1 F0) ?_
 rintro _ w1 ⟨rfl, hc1⟩
 replace F0 := F0.chg hc1 Dj.nil
 replace hB := hB.inS hc1 inNil
 replace hZ := Nat.le_trans hZ hc1.size
 refine ⟨.bool (y1), rfl, ?_⟩
 refine wS_pure 1 [(2, .bool (y1))] (by kernel_rfl) ?_
 refine wS_end (by rfl) ?_
 refine eX_then ?_
 refine cW_ret ?_
 have hq : (some y1 : Option ((Bool))) = some _ := hm
 replace hq := someE hq
 subst hq
 refine eX_ret (vs := [.bool (y1)]) [.tmp 2] (by rfl) ⟨by (show lkE _ _ _ = _); kernel_rfl, trivial⟩ ?_
 exact ⟨rfl, hB⟩

set_option maxRecDepth 100000 in
/-- impl.size -/
theorem c_impl_size {w0 : World} {p0 : Int} {r : (Int)} (hm : m_impl_size p0 = some r)  :
  Calls Try.prog 37 #[.int .i64 (p0)] w0 fun e w' => e = .returned (.int .i64 (r)) ∧ Chg [] w0 w' := by
 have hB : Chg [] w0 w0 := Chg.refl _ _
 have hZ := Nat.le_refl w0.heap.size
 unfold m_impl_size at hm
 refine enterE (N := 7) Try.func37 (by rfl) Try.ntmps37 (by simp) [(0, .int .i64 (p0))] (by rfl) (by kernel_rfl) (fun a => ?_)
 refine cW_seq ?_
 refine cW_region ?_
 refine wS_pure 1 [(2, .int .i64 (0))] (by kernel_rfl) ?_
 refine wS_end (by rfl) ?_
 refine eX_then ?_
 refine cW_seq ?_
 refine cW_region ?_
 refine wS_pure 5 [(2, .int .i64 (if (wr (0 - p0)) > p0 then (wr (0 - p0)) else p0)), (6, .int .i64 (if (wr (0 - p0)) > p0 then (wr (0 - p0)) else p0)), (5, .int .i64 (wr (0 - p0))), (4, .int .i64 (p0)), (3, .int .i64 (p0))] (by kernel_rfl) ?_
 refine wS_end (by rfl) ?_
 refine eX_then ?_
 refine cW_ret ?_
 have hq : (some (if (wr (0 - p0)) > p0 then (wr (0 - p0)) else p0) : Option ((Int))) = some _ := hm
 replace hq := someE hq
 subst hq
 refine eX_ret (vs := [.int .i64 (if (wr (0 - p0)) > p0 then (wr (0 - p0)) else p0)]) [.tmp 2] (by rfl) ⟨by (show lkE _ _ _ = _); kernel_rfl, trivial⟩ ?_
 exact ⟨rfl, hB⟩

set_option maxRecDepth 100000 in
/-- impl.far -/
theorem c_impl_far {w0 : World} {p0_0 : Int} {p0_1 : Int} {p1_0 : Int} {p1_1 : Int} {r : (Int)} (hm : m_impl_far p0_0 p0_1 p1_0 p1_1 = some r)  :
  Calls Try.prog 24 #[.agg #[.int .i64 (p0_0), .int .i64 (p0_1)], .agg #[.int .i64 (p1_0), .int .i64 (p1_1)]] w0 fun e w' => e = .returned (.int .i64 (r)) ∧ Chg [] w0 w' := by
 have hB : Chg [] w0 w0 := Chg.refl _ _
 have hZ := Nat.le_refl w0.heap.size
 unfold m_impl_far at hm
 refine enterE (N := 18) Try.func24 (by rfl) Try.ntmps24 (by simp) [(0, .agg #[.int .i64 (p0_0), .int .i64 (p0_1)]), (1, .agg #[.int .i64 (p1_0), .int .i64 (p1_1)])] (by rfl) (by kernel_rfl) (fun a => ?_)
 refine cW_seq ?_
 refine cW_region ?_
 refine wS_box (d := 2) (T := 35) (x := .agg #[.int .i64 (p0_0), .int .i64 (p0_1)]) (by kernel_rfl) ?_
 intro b1 w1 G1 F1 hc1
 replace F1 : Cl w1 b1 35 [.int .i64 (p0_0), .int .i64 (p0_1)] := F1
 replace hB := hB.inS hc1 inNil
 replace G1 := Nat.le_trans hZ G1
 replace hZ := Nat.le_trans hZ hc1.size
 refine wS_box (d := 3) (T := 35) (x := .agg #[.int .i64 (p1_0), .int .i64 (p1_1)]) (by kernel_rfl) ?_
 intro b2 w2 G2 F2 hc2
 replace F2 : Cl w2 b2 35 [.int .i64 (p1_0), .int .i64 (p1_1)] := F2
 have D1 : Dj [b1] [b2] := Dj.of (lt1 F1.lt) (low1 G2)
 replace F1 := F1.chg hc2 notNil
 replace hB := hB.inS hc2 inNil
 replace G2 := Nat.le_trans hZ G2
 replace hZ := Nat.le_trans hZ hc2.size
 refine wS_pure 1 [(4, .int .i64 (0))] (by kernel_rfl) ?_
 refine wS_end (by rfl) ?_
 refine eX_then ?_
 refine cW_seq ?_
 refine cW_drawnTail [] 11 (by kernel_rfl) (by kernel_rfl) (fun w3 hc3 => ?_)
 replace F1 := F1.chg hc3 notNil
 replace F2 := F2.chg hc3 notNil
 replace hB := hB.inS hc3 inNil
 replace hZ := Nat.le_trans hZ hc3.size
 have hS := Chg.refl [] w3
 have Z1 := F1
 have Z2 := F2
 refine wH_take [0] [0] [(5, .pointer (some ⟨b1, 0, none⟩))] (by kernel_rfl) (qT (qT qZ)) (by kernel_rfl) ?_
 refine wH_load1 (i := 1) (d := 6) (T := 2) (ad := ⟨b1, 0, none⟩) (v := .int .i64 (p0_0)) (by kernel_rfl) (qT (qT qZ)) (by kernel_rfl) (by kernel_rfl) vt2 (fun W hW => (Z1.chg hW notNil).cell 0) ?_
 refine wH_take [2] [2, 1, 0] [(7, .pointer (some ⟨b2, 0, none⟩))] (by kernel_rfl) (qT (qT qZ)) (by kernel_rfl) ?_
 refine wH_load1 (i := 3) (d := 8) (T := 2) (ad := ⟨b2, 0, none⟩) (v := .int .i64 (p1_0)) (by kernel_rfl) (qT (qT qZ)) (by kernel_rfl) (by kernel_rfl) vt2 (fun W hW => (Z2.chg hW notNil).cell 0) ?_
 refine wH_take [4, 6] [6, 4, 3, 2, 1, 0] [(11, .pointer (some ⟨b1, 1, none⟩)), (9, .int .i64 (wr (p0_0 - p1_0)))] (by kernel_rfl) (qT (qT qZ)) (by kernel_rfl) ?_
 refine wH_load1 (i := 7) (d := 12) (T := 2) (ad := ⟨b1, 1, none⟩) (v := .int .i64 (p0_1)) (by kernel_rfl) (qT (qT qZ)) (by kernel_rfl) (by kernel_rfl) vt2 (fun W hW => (Z1.chg hW notNil).cell 1) ?_
 refine wH_take [8] [8, 7, 6, 4, 3, 2, 1, 0] [(13, .pointer (some ⟨b2, 1, none⟩))] (by kernel_rfl) (qT (qT qZ)) (by kernel_rfl) ?_
 refine wH_load1 (i := 9) (d := 14) (T := 2) (ad := ⟨b2, 1, none⟩) (v := .int .i64 (p1_1)) (by kernel_rfl) (qT (qT qZ)) (by kernel_rfl) (by kernel_rfl) vt2 (fun W hW => (Z2.chg hW notNil).cell 1) ?_
 refine wH_take [10] [10, 9, 8, 7, 6, 4, 3, 2, 1, 0] [(15, .int .i64 (wr (p0_1 - p1_1)))] (by kernel_rfl) (qT (qT qZ)) (by kernel_rfl) ?_
 refine wH_all [5] (by rfl) (by kernel_rfl) (by simp) ⟨⟨by kernel_rfl, ?_⟩, trivial⟩
 obtain ⟨y1, hy1, hm⟩ := bindE hm
 refine wS_calls (d := 10) (f := 37) (vs := [.int .i64 (wr (p0_0 - p1_0))]) (by kernel_rfl) ent37 (c_impl_size hy1) ?_
 rintro _ w4 ⟨rfl, hc4⟩
 replace F1 := F1.chg hc4 notNil
 replace F2 := F2.chg hc4 notNil
 replace hB := hB.inS hc4 inNil
 have hSz := hS
 replace hS := hS.inS hc4 inNil
 replace hZ := Nat.le_trans hZ hc4.size
 refine ⟨.int .i64 (y1), rfl, ?_⟩
 refine wS_end (by kernel_rfl) ?_
 refine eX_KH hS ?_
 refine wH_done (by kernel_rfl) ?_
 refine eX_tail ?_
 obtain ⟨y2, hy2, hm⟩ := bindE hm
 refine wS_calls (d := 16) (f := 37) (vs := [.int .i64 (wr (p0_1 - p1_1))]) (by kernel_rfl) ent37 (c_impl_size hy2) ?_
 rintro _ w5 ⟨rfl, hc5⟩
 replace F1 := F1.chg hc5 notNil
 replace F2 := F2.chg hc5 notNil
 replace hB := hB.inS hc5 inNil
 replace hZ := Nat.le_trans hZ hc5.size
 refine ⟨.int .i64 (y2), rfl, ?_⟩
 refine wS_pure 2 [(4, .int .i64 (wr (y1 + y2))), (17, .int .i64 (wr (y1 + y2)))] (by kernel_rfl) ?_
 refine wS_end (by rfl) ?_
 refine eX_then ?_
 refine cW_ret ?_
 have hq : (some (wr (y1 + y2)) : Option ((Int))) = some _ := hm
 replace hq := someE hq
 subst hq
 refine eX_ret (vs := [.int .i64 (wr (y1 + y2))]) [.tmp 4] (by rfl) ⟨by (show lkE _ _ _ = _); kernel_rfl, trivial⟩ ?_
 exact ⟨rfl, hB⟩

set_option maxRecDepth 100000 in
/-- impl.spanning -/
theorem c_impl_spanning {w0 : World} {l0 : List (Int × Int)} {A0 : Option Addr} {cap0 : Nat} {fp0 : List Nat} {r : (List (List (Int))) × (Int)} (hm : m_impl_spanning l0 = some r) (F0 : Sl 2 encII w0 fp0 A0 l0) :
  Calls Try.prog 16 #[.slice A0 (l0).length cap0] w0 fun e w' => ∃ A100 cap100 fp100 fr100, e = .returned (.tuple #[.slice A100 (r.1).length cap100, .int .i64 (r.2)]) ∧ OwR 1 encI 32 2 w' fp100 fr100 A100 cap100 r.1 ∧ (∀ x ∈ fp100 ++ fr100, w0.heap.size ≤ x) ∧ Chg [] w0 w' := by
 have L0 := F0.low
 have hB : Chg [] w0 w0 := Chg.refl _ _
 have hZ := Nat.le_refl w0.heap.size
 unfold m_impl_spanning at hm
 refine enterE (N := 100) Try.func16 (by rfl) Try.ntmps16 (by simp) [(0, .slice A0 (l0).length cap0)] (by rfl) (by kernel_rfl) (fun a => ?_)
 refine cW_seq ?_
 refine cW_region ?_
 refine wS_pure 2 [(3, .int .i64 (0)), (2, .slice none 0 0)] (by kernel_rfl) ?_
 refine wS_end (by rfl) ?_
 refine eX_then ?_
 refine cW_seq ?_
 refine cW_region ?_
 refine wS_rows0 (k := 1) (enc := encI) (d := 11) (t := 26) (T := 32) (T2 := 2) (by kernel_rfl) el26 ?_
 intro b1 w1 G1 F1 hc1
 replace F0 := F0.chg hc1 Dj.nil
 replace hB := hB.inS hc1 inNil
 replace G1 := Nat.le_trans hZ G1
 replace G1 := low1 G1
 replace hZ := Nat.le_trans hZ hc1.size
 replace G1 := lowApp G1 lowNil
 refine wS_pure 2 [(5, .int .i64 (0)), (4, .slice (some ⟨b1, 0, none⟩) (([] : List (List (Int)))).length 0)] (by kernel_rfl) ?_
 refine wS_end (by rfl) ?_
 refine eX_then ?_
 refine cW_seq ?_
 refine cW_region ?_
 refine wS_pure 2 [(13, .int .i64 (((l0).length : Int))), (12, .slice A0 (l0).length cap0)] (by kernel_rfl) ?_
 obtain ⟨_, hk1, hm⟩ := bindE hm
 replace hk1 := mkE hk1
 refine wS_make (enc := encB) (x0 := (false : Bool)) (d := 14) (t := 54) (T := 4) (k1 := .i64) (k2 := .i64) (m := ((l0).length : Int)) (by kernel_rfl) el54 encB_ok (by rfl) hk1.1 hk1.2 ?_
 intro b2 w2 G2 F2 hc2
 have D1 : Dj ([b1] ++ []) [b2] := Dj.of F1.low (low1 G2)
 replace F0 := F0.chg hc2 Dj.nil
 replace F1 := F1.chg hc2 Dj.nil
 replace hB := hB.inS hc2 inNil
 replace G2 := Nat.le_trans hZ G2
 replace G2 := low1 G2
 replace hZ := Nat.le_trans hZ hc2.size
 refine wS_pure 1 [(6, .slice (some ⟨b2, 0, none⟩) (List.replicate (Int.toNat (((l0).length : Int))) ((false : Bool))).length (Int.toNat (((l0).length : Int))))] (by kernel_rfl) ?_
 refine wS_end (by rfl) ?_
 refine eX_then ?_
 refine cW_seq ?_
 refine cW_region ?_
 refine wS_pure 1 [(15, .slice (some ⟨b2, 0, none⟩) (List.replicate (Int.toNat (((l0).length : Int))) ((false : Bool))).length (Int.toNat (((l0).length : Int))))] (by kernel_rfl) ?_
 obtain ⟨x1, hx1, hm⟩ := bindE hm
 refine wS_idx (d := 16) (T := 54) (A := (some ⟨b2, 0, none⟩)) (n := (List.replicate (Int.toNat (((l0).length : Int))) ((false : Bool))).length) (cap := (Int.toNat (((l0).length : Int)))) (kd := .i64) (m := 0) (by kernel_rfl) sl54 ((F2.sl encB_ok).is hx1) ?_
 refine wS_storeEl (x := x1) true (T := 4) (U := 4) (cap := (Int.toNat (((l0).length : Int)))) (j := 0) (A := (some ⟨b2, 0, none⟩)) (v := .bool (true)) (vs := [.bool (true)]) (m := 0) (by kernel_rfl) (by rfl) sz4 (by rfl) encB_ok F2 hx1 (by simp only [List.length_cons, List.length_nil]; omega) (by rfl) ?_
 intro w3 F3 hc3
 replace F0 := F0.chg hc3 (Dj.of L0 G2)
 replace F1 := F1.chg hc3 D1
 replace hB := hB.inS hc3 (inLow G2)
 replace hZ := Nat.le_trans hZ hc3.size
 clear F2
 rewrite [show (List.replicate (Int.toNat (((l0).length : Int))) ((false : Bool))).length = ((List.replicate (Int.toNat (((l0).length : Int))) ((false : Bool))).set (Int.toNat 0) true).length from (List.length_set ..).symm]
 refine wS_end (by rfl) ?_
 refine eX_then ?_
 refine cW_seq ?_
 obtain ⟨r1, hr1, hm⟩ := bindE hm
 have hm1 := hm
 refine cW_cut (fun a' w' => ∃ l1 : List (List (Int)), ∃ A1 : Option Addr, ∃ cap1 : Nat, ∃ fp1 : List Nat, ∃ fr1 : List Nat, ∃ x2 : Int, (l1, x2) = r1 ∧ Fr 100 [(4, .slice A1 (l1).length cap1), (5, .int .i64 (x2))] a' ∧ OwR 1 encI 32 2 w' fp1 fr1 A1 cap1 l1 ∧ (∀ x ∈ (fp1 ++ fr1), w0.heap.size ≤ x) ∧ Chg [] w0 w' ∧ w0.heap.size ≤ w'.heap.size) ?_ ?_
 ·refine cW_block ?_
  refine cW_loop _ (fun (s1 : (List (List (Int))) × Int × (List (Bool))) a' w' => ∃ l2 : List (List (Int)), ∃ A3 : Option Addr, ∃ cap3 : Nat, ∃ fp2 : List Nat, ∃ fr2 : List Nat, ∃ x3 : Int, ∃ l3 : List (Bool), (l2, x3, l3) = s1 ∧ Fr 100 [(0, .slice A0 (l0).length cap0), (4, .slice A3 (l2).length cap3), (5, .int .i64 (x3)), (6, .slice (some ⟨b2, 0, none⟩) (l3).length (Int.toNat (((l0).length : Int))))] a' ∧ Sl 2 encII w' fp0 A0 l0 ∧ Ow 1 encB 4 w' [b2] (some ⟨b2, 0, none⟩) (Int.toNat (((l0).length : Int))) l3 ∧ OwR 1 encI 32 2 w' fp2 fr2 A3 cap3 l2 ∧ (∀ x ∈ (fp2 ++ fr2), w0.heap.size ≤ x) ∧ Dj [b2] (fp2 ++ fr2) ∧ Chg [] w0 w' ∧ w0.heap.size ≤ w'.heap.size) hr1 (fun hst => ⟨([] : List (List (Int))), (some ⟨b1, 0, none⟩), 0, [b1], [], 0, (List.replicate (Int.toNat (((l0).length : Int))) ((false : Bool))).set (Int.toNat 0) true, rfl, Fr.of hst (by kernel_rfl), F0, F3, F1, G1, (D1).symm, hB, hZ⟩) ?_
  rintro _ c1 a' w4 ⟨l2, A3, cap3, fp2, fr2, x3, l3, rfl, hF1, F4, F5, F6, G3, D2, hB, hZ⟩ hx2
  refine Fr.goOn hF1 (by kernel_rfl) ?_
  have hm := hx2
  unfold m_impl_spanning_s9 at hm
  refine cW_seq ?_
  refine cW_seq ?_
  refine cW_region ?_
  refine wS_pure 6 [(22, .bool (decide ((wr ((((l2).length : Int)) + 1)) < (((l0).length : Int))))), (21, .int .i64 (((l0).length : Int))), (20, .slice A0 (l0).length cap0), (19, .int .i64 (wr ((((l2).length : Int)) + 1))), (18, .int .i64 (((l2).length : Int))), (17, .slice A3 (l2).length cap3)] (by kernel_rfl) ?_
  refine wS_end (by rfl) ?_
  refine eX_then ?_
  refine cW_cond (t := decide ((wr ((((l2).length : Int)) + 1)) < (((l0).length : Int)))) (by kernel_rfl) (fun hb1 => ?_) (fun hb1 => ?_)
  ·have hm := condT hb1 hm
   refine cW_skip ?_
   refine eX_then ?_
   refine cW_block ?_
   refine cW_seq ?_
   refine cW_region ?_
   refine wS_pure 2 [(8, .int .i64 ((-1))), (7, .int .i64 ((-1)))] (by kernel_rfl) ?_
   refine wS_end (by rfl) ?_
   refine eX_then ?_
   refine cW_seq ?_
   refine cW_seq ?_
   refine cW_region ?_
   refine wS_pure 3 [(25, .int .i64 (0)), (24, .int .i64 (((l0).length : Int))), (23, .slice A0 (l0).length cap0)] (by kernel_rfl) ?_
   refine wS_end (by rfl) ?_
   refine eX_then ?_
   obtain ⟨r2, hr2, hm⟩ := bindE hm
   have hm2 := hm
   refine cW_cut (fun a' w' => ∃ x4 : Int, ∃ x5 : Int, (x4, x5) = r2 ∧ Fr 100 [(0, .slice A0 (l0).length cap0), (4, .slice A3 (l2).length cap3), (5, .int .i64 (x3)), (6, .slice (some ⟨b2, 0, none⟩) (l3).length (Int.toNat (((l0).length : Int)))), (7, .int .i64 (x4)), (8, .int .i64 (x5))] a' ∧ Sl 2 encII w' fp0 A0 l0 ∧ Ow 1 encB 4 w' [b2] (some ⟨b2, 0, none⟩) (Int.toNat (((l0).length : Int))) l3 ∧ OwR 1 encI 32 2 w' fp2 fr2 A3 cap3 l2 ∧ Chg [] w0 w' ∧ w0.heap.size ≤ w'.heap.size) ?_ ?_
   ·refine cW_block ?_
    refine cW_loop _ (fun (s2 : Int × Int × Int) a' w' => ∃ x6 : Int, ∃ x7 : Int, ∃ x8 : Int, (x6, x7, x8) = s2 ∧ Fr 100 [(0, .slice A0 (l0).length cap0), (4, .slice A3 (l2).length cap3), (5, .int .i64 (x3)), (6, .slice (some ⟨b2, 0, none⟩) (l3).length (Int.toNat (((l0).length : Int)))), (7, .int .i64 (x6)), (8, .int .i64 (x7)), (24, .int .i64 (((l0).length : Int))), (25, .int .i64 (x8))] a' ∧ Sl 2 encII w' fp0 A0 l0 ∧ Ow 1 encB 4 w' [b2] (some ⟨b2, 0, none⟩) (Int.toNat (((l0).length : Int))) l3 ∧ OwR 1 encI 32 2 w' fp2 fr2 A3 cap3 l2 ∧ Chg [] w0 w' ∧ w0.heap.size ≤ w'.heap.size) hr2 (fun hst => ⟨(-1), (-1), 0, rfl, Fr.of hst (by kernel_rfl), F4, F5, F6, hB, hZ⟩) ?_
    rintro _ c2 a' w5 ⟨x6, x7, x8, rfl, hF2, F7, F8, F9, hB, hZ⟩ hx3
    refine Fr.goOn hF2 (by kernel_rfl) ?_
    have hm := hx3
    unfold m_impl_spanning_s12 at hm
    refine cW_seq ?_
    refine cW_region ?_
    refine wS_pure 1 [(26, .bool (decide (x8 < (((l0).length : Int)))))] (by kernel_rfl) ?_
    refine wS_end (by rfl) ?_
    refine eX_then ?_
    refine cW_seq ?_
    refine cW_cond (t := decide (x8 < (((l0).length : Int)))) (by kernel_rfl) (fun hb2 => ?_) (fun hb2 => ?_)
    ·have hm := condT hb2 hm
     refine cW_skip ?_
     refine eX_then ?_
     refine cW_seq ?_
     refine cW_block ?_
     refine cW_seq ?_
     refine cW_region ?_
     refine wS_pure 2 [(9, .int .i64 (x8)), (27, .int .i64 (x8))] (by kernel_rfl) ?_
     refine wS_end (by rfl) ?_
     refine eX_then ?_
     refine cW_seq ?_
     refine cW_region ?_
     refine wS_pure 3 [(10, .int .i64 (wr (x8 + 1))), (29, .int .i64 (wr (x8 + 1))), (28, .int .i64 (x8))] (by kernel_rfl) ?_
     refine wS_end (by rfl) ?_
     refine eX_then ?_
     obtain ⟨r3, hr3, hm⟩ := bindE hm
     have hm3 := hm
     refine cW_cut (fun a' w' => ∃ x9 : Int, ∃ x10 : Int, (x9, x10) = r3 ∧ Fr 100 [(0, .slice A0 (l0).length cap0), (4, .slice A3 (l2).length cap3), (5, .int .i64 (x3)), (6, .slice (some ⟨b2, 0, none⟩) (l3).length (Int.toNat (((l0).length : Int)))), (7, .int .i64 (x9)), (8, .int .i64 (x10)), (24, .int .i64 (((l0).length : Int))), (25, .int .i64 (x8))] a' ∧ Sl 2 encII w' fp0 A0 l0 ∧ Ow 1 encB 4 w' [b2] (some ⟨b2, 0, none⟩) (Int.toNat (((l0).length : Int))) l3 ∧ OwR 1 encI 32 2 w' fp2 fr2 A3 cap3 l2 ∧ Chg [] w0 w' ∧ w0.heap.size ≤ w'.heap.size) ?_ ?_
     ·refine cW_block ?_
      refine cW_loop _ (fun (s3 : Int × Int × Int) a' w' => ∃ x11 : Int, ∃ x12 : Int, ∃ x13 : Int, (x11, x12, x13) = s3 ∧ Fr 100 [(0, .slice A0 (l0).length cap0), (4, .slice A3 (l2).length cap3), (5, .int .i64 (x3)), (6, .slice (some ⟨b2, 0, none⟩) (l3).length (Int.toNat (((l0).length : Int)))), (7, .int .i64 (x11)), (8, .int .i64 (x12)), (9, .int .i64 (x8)), (10, .int .i64 (x13)), (24, .int .i64 (((l0).length : Int))), (25, .int .i64 (x8))] a' ∧ Sl 2 encII w' fp0 A0 l0 ∧ Ow 1 encB 4 w' [b2] (some ⟨b2, 0, none⟩) (Int.toNat (((l0).length : Int))) l3 ∧ OwR 1 encI 32 2 w' fp2 fr2 A3 cap3 l2 ∧ Chg [] w0 w' ∧ w0.heap.size ≤ w'.heap.size) hr3 (fun hst => ⟨x6, x7, wr (x8 + 1), rfl, Fr.of hst (by kernel_rfl), F7, F8, F9, hB, hZ⟩) ?_
      rintro _ c3 a' w6 ⟨x11, x12, x13, rfl, hF3, F10, F11, F12, hB, hZ⟩ hx4
      refine Fr.goOn hF3 (by kernel_rfl) ?_
      have hm := hx4
      unfold m_impl_spanning_s13 at hm
      refine cW_seq ?_
      refine cW_seq ?_
      refine cW_region ?_
      refine wS_pure 4 [(33, .bool (decide (x13 < (((l0).length : Int))))), (32, .int .i64 (((l0).length : Int))), (31, .slice A0 (l0).length cap0), (30, .int .i64 (x13))] (by kernel_rfl) ?_
      refine wS_end (by rfl) ?_
      refine eX_then ?_
      refine cW_cond (t := decide (x13 < (((l0).length : Int)))) (by kernel_rfl) (fun hb3 => ?_) (fun hb3 => ?_)
      ·have hm := condT hb3 hm
       refine cW_skip ?_
       refine eX_then ?_
       refine cW_seq ?_
       refine cW_block ?_
       obtain ⟨s4, hs1, hm⟩ := bindE hm
       refine cW_cut (fun a' w' => ∃ x14 : Int, ∃ x15 : Int, (x14, x15) = s4 ∧ Fr 100 [(0, .slice A0 (l0).length cap0), (4, .slice A3 (l2).length cap3), (5, .int .i64 (x3)), (6, .slice (some ⟨b2, 0, none⟩) (l3).length (Int.toNat (((l0).length : Int)))), (7, .int .i64 (x14)), (8, .int .i64 (x15)), (9, .int .i64 (x8)), (10, .int .i64 (x13)), (24, .int .i64 (((l0).length : Int))), (25, .int .i64 (x8))] a' ∧ Sl 2 encII w' fp0 A0 l0 ∧ Ow 1 encB 4 w' [b2] (some ⟨b2, 0, none⟩) (Int.toNat (((l0).length : Int))) l3 ∧ OwR 1 encI 32 2 w' fp2 fr2 A3 cap3 l2 ∧ Chg [] w0 w' ∧ w0.heap.size ≤ w'.heap.size) ?_ ?_
       ·have hm := hs1
        refine cW_seq ?_
        refine cW_drawnTail [] 30 (by kernel_rfl) (by kernel_rfl) (fun w7 hc4 => ?_)
        replace F10 := F10.chg hc4 Dj.nil
        replace F11 := F11.chg hc4 Dj.nil
        replace F12 := F12.chg hc4 Dj.nil
        replace hB := hB.inS hc4 inNil
        replace hZ := Nat.le_trans hZ hc4.size
        have hS := Chg.refl [] w7
        have Z1 := F10
        have Z2 := F11
        have Z3 := F12
        refine wH_take [0, 1] [1, 0] [(37, .int .i64 (x8)), (36, .slice (some ⟨b2, 0, none⟩) (l3).length (Int.toNat (((l0).length : Int))))] (by kernel_rfl) (qT (qT (qT (qB (qT (qL (qB (qT (qB (qT (qL (qB (qT (qT (qB (qL (qB (qT (qT qZ))))))))))))))))))) (by kernel_rfl) ?_
        obtain ⟨x16, hx5, hm⟩ := bindE hm
        refine wH_idx (i := 2) (d := 38) (T := 54) (A := (some ⟨b2, 0, none⟩)) (n := (l3).length) (cap := (Int.toNat (((l0).length : Int)))) (kd := .i64) (m := x8) (by kernel_rfl) (qT (qT (qT (qB (qT (qL (qB (qT (qB (qT (qL (qB (qT (qT (qB (qL (qB (qT (qT qZ))))))))))))))))))) (by kernel_rfl) (by kernel_rfl) sl54 ((F11.sl encB_ok).is hx5) ?_
        refine wH_load1 (i := 3) (d := 39) (T := 4) (ad := (elA (some ⟨b2, 0, none⟩) 1 (x8) 0)) (v := .bool (x16)) (by kernel_rfl) (qT (qT (qT (qB (qT (qL (qB (qT (qB (qT (qL (qB (qT (qT (qB (qL (qB (qT (qT qZ))))))))))))))))))) (by kernel_rfl) (by kernel_rfl) vt4 (fun W hW => Sl.cell ((Z2.chg hW Dj.nil).sl encB_ok) hx5 0 (by rfl)) ?_
        refine wH_take [4, 5] [5, 4, 3, 2, 1, 0] [(41, .int .i64 (x13)), (40, .slice (some ⟨b2, 0, none⟩) (l3).length (Int.toNat (((l0).length : Int))))] (by kernel_rfl) (qT (qT (qT (qB (qT (qL (qB (qT (qB (qT (qL (qB (qT (qT (qB (qL (qB (qT (qT qZ))))))))))))))))))) (by kernel_rfl) ?_
        obtain ⟨x17, hx6, hm⟩ := bindE hm
        refine wH_idx (i := 6) (d := 42) (T := 54) (A := (some ⟨b2, 0, none⟩)) (n := (l3).length) (cap := (Int.toNat (((l0).length : Int)))) (kd := .i64) (m := x13) (by kernel_rfl) (qT (qT (qT (qB (qT (qL (qB (qT (qB (qT (qL (qB (qT (qT (qB (qL (qB (qT (qT qZ))))))))))))))))))) (by kernel_rfl) (by kernel_rfl) sl54 ((F11.sl encB_ok).is hx6) ?_
        refine wH_load1 (i := 7) (d := 43) (T := 4) (ad := (elA (some ⟨b2, 0, none⟩) 1 (x13) 0)) (v := .bool (x17)) (by kernel_rfl) (qT (qT (qT (qB (qT (qL (qB (qT (qB (qT (qL (qB (qT (qT (qB (qL (qB (qT (qT qZ))))))))))))))))))) (by kernel_rfl) (by kernel_rfl) vt4 (fun W hW => Sl.cell ((Z2.chg hW Dj.nil).sl encB_ok) hx6 0 (by rfl)) ?_
        refine wH_take [8, 9] [9, 8, 7, 6, 5, 4, 3, 2, 1, 0] [(45, .bool (!(x16 == x17))), (44, .bool (!(x16 == x17)))] (by kernel_rfl) (qT (qT (qT (qB (qT (qL (qB (qT (qB (qT (qL (qB (qT (qT (qB (qL (qB (qT (qT qZ))))))))))))))))))) (by kernel_rfl) ?_
        refine wH_bool (!(x16 == x17)) (fun hb4 => ?_) (fun hb4 => ?_)
        ·have hm := condT hb4 hm
         rewrite [hb4]
         refine wH_take [10, 11, 12] [12, 11, 10, 9, 8, 7, 6, 5, 4, 3, 2, 1, 0] [(48, .bool (decide (x11 < 0))), (47, .bool (decide (x11 < 0))), (46, .int .i64 (x11))] (by kernel_rfl) (qT (qT (qT (qB (qT (qL (qB (qT (qB (qT (qL (qB (qT (qT (qB (qL (qB (qT (qT qZ))))))))))))))))))) (by kernel_rfl) ?_
         refine wH_bool (decide (x11 < 0)) (fun hb5 => ?_) (fun hb5 => ?_)
         ·have hm := condT hb5 hm
          rewrite [hb5]
          refine wH_take [13, 14, 15, 16, 17, 18, 19, 20, 21, 22, 23, 24, 25, 26, 27, 28, 29] [29, 28, 27, 26, 25, 24, 23, 22, 21, 20, 19, 18, 17, 16, 15, 14, 13, 12, 11, 10, 9, 8, 7, 6, 5, 4, 3, 2, 1, 0] [(65, undef), (64, undef), (63, undef), (62, undef), (61, undef), (60, undef), (59, undef), (58, undef), (57, undef), (56, undef), (55, undef), (54, undef), (53, undef), (52, undef), (51, undef), (50, undef), (49, undef)] (by kernel_rfl) (qT (qT (qT (qB (qT (qL (qB (qT (qB (qT (qL (qB (qT (qT (qB (qL (qB (qT (qT qZ))))))))))))))))))) (by kernel_rfl) ?_
          refine wH_done (by kernel_rfl) ?_
          refine eX_tail ?_
          refine wS_pure 4 [(69, .bool (true)), (68, .bool (true)), (67, undef), (66, undef)] (by kernel_rfl) ?_
          refine wS_end (by rfl) ?_
          refine eX_then ?_
          refine cW_prune [(0, .slice A0 (l0).length cap0), (4, .slice A3 (l2).length cap3), (5, .int .i64 (x3)), (6, .slice (some ⟨b2, 0, none⟩) (l3).length (Int.toNat (((l0).length : Int)))), (7, .int .i64 (x11)), (8, .int .i64 (x12)), (9, .int .i64 (x8)), (10, .int .i64 (x13)), (24, .int .i64 (((l0).length : Int))), (25, .int .i64 (x8)), (69, .bool (true))] (by kernel_rfl) (by kernel_rfl) (fun a1 => ?_)
          refine cW_cond_t (by kernel_rfl) ?_
          refine cW_region ?_
          refine wS_pure 4 [(8, .int .i64 (x13)), (7, .int .i64 (x8)), (71, .int .i64 (x13)), (70, .int .i64 (x8))] (by kernel_rfl) ?_
          refine wS_end (by rfl) ?_
          have hq : (some ((x8, x13)) : Option (Int × Int)) = some _ := hm
          replace hq := someE hq
          subst hq
          exact eX_J (fun hst => ⟨x8, x13, rfl, Fr.of hst (by kernel_rfl), F10, F11, F12, hB, hZ⟩)
         ·have hm := condF hb5 hm
          rewrite [hb5]
          refine wH_take [13, 14] [14, 13, 12, 11, 10, 9, 8, 7, 6, 5, 4, 3, 2, 1, 0] [(50, .int .i64 (x8)), (49, .slice A0 (l0).length cap0)] (by kernel_rfl) (qT (qT (qT (qB (qT (qL (qB (qT (qB (qT (qL (qB (qT (qT (qB (qL (qB (qT (qT qZ))))))))))))))))))) (by kernel_rfl) ?_
          obtain ⟨x18, hx7, hm⟩ := bindE hm
          refine wH_idx (i := 15) (d := 51) (T := 24) (A := A0) (n := (l0).length) (cap := cap0) (kd := .i64) (m := x8) (by kernel_rfl) (qT (qT (qT (qB (qT (qL (qB (qT (qB (qT (qL (qB (qT (qT (qB (qL (qB (qT (qT qZ))))))))))))))))))) (by kernel_rfl) (by kernel_rfl) sl24 (F10.is hx7) ?_
          refine wH_loadA (i := 16) (d := 52) (T := 35) (ad := (elA A0 2 (x8) 0)) (vs := [.int .i64 (x18.1), .int .i64 (x18.2)]) (by kernel_rfl) (qT (qT (qT (qB (qT (qL (qB (qT (qB (qT (qL (qB (qT (qT (qB (qL (qB (qT (qT qZ))))))))))))))))))) (by kernel_rfl) (by kernel_rfl) vt35 (fun W hW i u hu => Sl.cells_at (Z1.chg hW Dj.nil) hx7 0 hu (by rfl)) ?_
          refine wH_take [17, 18] [18, 17, 16, 15, 14, 13, 12, 11, 10, 9, 8, 7, 6, 5, 4, 3, 2, 1, 0] [(54, .int .i64 (x13)), (53, .slice A0 (l0).length cap0)] (by kernel_rfl) (qT (qT (qT (qB (qT (qL (qB (qT (qB (qT (qL (qB (qT (qT (qB (qL (qB (qT (qT qZ))))))))))))))))))) (by kernel_rfl) ?_
          obtain ⟨x19, hx8, hm⟩ := bindE hm
          refine wH_idx (i := 19) (d := 55) (T := 24) (A := A0) (n := (l0).length) (cap := cap0) (kd := .i64) (m := x13) (by kernel_rfl) (qT (qT (qT (qB (qT (qL (qB (qT (qB (qT (qL (qB (qT (qT (qB (qL (qB (qT (qT qZ))))))))))))))))))) (by kernel_rfl) (by kernel_rfl) sl24 (F10.is hx8) ?_
          refine wH_loadA (i := 20) (d := 56) (T := 35) (ad := (elA A0 2 (x13) 0)) (vs := [.int .i64 (x19.1), .int .i64 (x19.2)]) (by kernel_rfl) (qT (qT (qT (qB (qT (qL (qB (qT (qB (qT (qL (qB (qT (qT (qB (qL (qB (qT (qT qZ))))))))))))))))))) (by kernel_rfl) (by kernel_rfl) vt35 (fun W hW i u hu => Sl.cells_at (Z1.chg hW Dj.nil) hx8 0 hu (by rfl)) ?_
          refine wH_take [22, 23] [23, 22, 20, 19, 18, 17, 16, 15, 14, 13, 12, 11, 10, 9, 8, 7, 6, 5, 4, 3, 2, 1, 0] [(59, .int .i64 (x11)), (58, .slice A0 (l0).length cap0)] (by kernel_rfl) (qT (qT (qT (qB (qT (qL (qB (qT (qB (qT (qL (qB (qT (qT (qB (qL (qB (qT (qT qZ))))))))))))))))))) (by kernel_rfl) ?_
          obtain ⟨x20, hx9, hm⟩ := bindE hm
          refine wH_idx (i := 24) (d := 60) (T := 24) (A := A0) (n := (l0).length) (cap := cap0) (kd := .i64) (m := x11) (by kernel_rfl) (qT (qT (qT (qB (qT (qL (qB (qT (qB (qT (qL (qB (qT (qT (qB (qL (qB (qT (qT qZ))))))))))))))))))) (by kernel_rfl) (by kernel_rfl) sl24 (F10.is hx9) ?_
          refine wH_loadA (i := 25) (d := 61) (T := 35) (ad := (elA A0 2 (x11) 0)) (vs := [.int .i64 (x20.1), .int .i64 (x20.2)]) (by kernel_rfl) (qT (qT (qT (qB (qT (qL (qB (qT (qB (qT (qL (qB (qT (qT (qB (qL (qB (qT (qT qZ))))))))))))))))))) (by kernel_rfl) (by kernel_rfl) vt35 (fun W hW i u hu => Sl.cells_at (Z1.chg hW Dj.nil) hx9 0 hu (by rfl)) ?_
          refine wH_take [26, 27] [27, 26, 25, 24, 23, 22, 20, 19, 18, 17, 16, 15, 14, 13, 12, 11, 10, 9, 8, 7, 6, 5, 4, 3, 2, 1, 0] [(63, .int .i64 (x12)), (62, .slice A0 (l0).length cap0)] (by kernel_rfl) (qT (qT (qT (qB (qT (qL (qB (qT (qB (qT (qL (qB (qT (qT (qB (qL (qB (qT (qT qZ))))))))))))))))))) (by kernel_rfl) ?_
          obtain ⟨x21, hx10, hm⟩ := bindE hm
          refine wH_idx (i := 28) (d := 64) (T := 24) (A := A0) (n := (l0).length) (cap := cap0) (kd := .i64) (m := x12) (by kernel_rfl) (qT (qT (qT (qB (qT (qL (qB (qT (qB (qT (qL (qB (qT (qT (qB (qL (qB (qT (qT qZ))))))))))))))))))) (by kernel_rfl) (by kernel_rfl) sl24 (F10.is hx10) ?_
          refine wH_loadA (i := 29) (d := 65) (T := 35) (ad := (elA A0 2 (x12) 0)) (vs := [.int .i64 (x21.1), .int .i64 (x21.2)]) (by kernel_rfl) (qT (qT (qT (qB (qT (qL (qB (qT (qB (qT (qL (qB (qT (qT (qB (qL (qB (qT (qT qZ))))))))))))))))))) (by kernel_rfl) (by kernel_rfl) vt35 (fun W hW i u hu => Sl.cells_at (Z1.chg hW Dj.nil) hx10 0 hu (by rfl)) ?_
          refine wH_all [21] (by rfl) (by kernel_rfl) (by simp) ⟨⟨by kernel_rfl, ?_⟩, trivial⟩
          obtain ⟨y1, hy1, hm⟩ := bindE hm
          refine wS_calls (d := 57) (f := 24) (vs := [.agg #[.int .i64 (x18.1), .int .i64 (x18.2)], .agg #[.int .i64 (x19.1), .int .i64 (x19.2)]]) (by kernel_rfl) ent24 (c_impl_far hy1) ?_
          rintro _ w8 ⟨rfl, hc5⟩
          replace F10 := F10.chg hc5 Dj.nil
          replace F11 := F11.chg hc5 Dj.nil
          replace F12 := F12.chg hc5 Dj.nil
          replace hB := hB.inS hc5 inNil
          have hSz := hS
          replace hS := hS.inS hc5 inNil
          replace hZ := Nat.le_trans hZ hc5.size
          refine ⟨.int .i64 (y1), rfl, ?_⟩
          refine wS_end (by kernel_rfl) ?_
          refine eX_KH hS ?_
          refine wH_done (by kernel_rfl) ?_
          refine eX_tail ?_
          obtain ⟨y2, hy2, hm⟩ := bindE hm
          refine wS_calls (d := 66) (f := 24) (vs := [.agg #[.int .i64 (x20.1), .int .i64 (x20.2)], .agg #[.int .i64 (x21.1), .int .i64 (x21.2)]]) (by kernel_rfl) ent24 (c_impl_far hy2) ?_
          rintro _ w9 ⟨rfl, hc6⟩
          replace F10 := F10.chg hc6 Dj.nil
          replace F11 := F11.chg hc6 Dj.nil
          replace F12 := F12.chg hc6 Dj.nil
          replace hB := hB.inS hc6 inNil
          replace hZ := Nat.le_trans hZ hc6.size
          refine ⟨.int .i64 (y2), rfl, ?_⟩
          refine wS_pure 3 [(69, .bool (decide (y1 < y2))), (68, .bool (decide (y1 < y2))), (67, .bool (decide (y1 < y2)))] (by kernel_rfl) ?_
          refine wS_end (by rfl) ?_
          refine eX_then ?_
          refine cW_prune [(0, .slice A0 (l0).length cap0), (4, .slice A3 (l2).length cap3), (5, .int .i64 (x3)), (6, .slice (some ⟨b2, 0, none⟩) (l3).length (Int.toNat (((l0).length : Int)))), (7, .int .i64 (x11)), (8, .int .i64 (x12)), (9, .int .i64 (x8)), (10, .int .i64 (x13)), (24, .int .i64 (((l0).length : Int))), (25, .int .i64 (x8)), (69, .bool (decide (y1 < y2)))] (by kernel_rfl) (by kernel_rfl) (fun a2 => ?_)
          refine cW_cond (t := decide (y1 < y2)) (by kernel_rfl) (fun hb6 => ?_) (fun hb6 => ?_)
          ·have hm := condT hb6 hm
           refine cW_region ?_
           refine wS_pure 4 [(8, .int .i64 (x13)), (7, .int .i64 (x8)), (71, .int .i64 (x13)), (70, .int .i64 (x8))] (by kernel_rfl) ?_
           refine wS_end (by rfl) ?_
           have hq : (some ((x8, x13)) : Option (Int × Int)) = some _ := hm
           replace hq := someE hq
           subst hq
           exact eX_J (fun hst => ⟨x8, x13, rfl, Fr.of hst (by kernel_rfl), F10, F11, F12, hB, hZ⟩)
          ·have hm := condF hb6 hm
           refine cW_skip ?_
           have hq : (some ((x11, x12)) : Option (Int × Int)) = some _ := hm
           replace hq := someE hq
           subst hq
           exact eX_J (fun hst => ⟨x11, x12, rfl, Fr.of hst (by kernel_rfl), F10, F11, F12, hB, hZ⟩)
        ·have hm := condF hb4 hm
         rewrite [hb4]
         refine wH_take [10, 11, 12, 13, 14, 15, 16, 17, 18, 19, 20, 21, 22, 23, 24, 25, 26, 27, 28, 29] [29, 28, 27, 26, 25, 24, 23, 22, 21, 20, 19, 18, 17, 16, 15, 14, 13, 12, 11, 10, 9, 8, 7, 6, 5, 4, 3, 2, 1, 0] [(65, undef), (64, undef), (63, undef), (62, undef), (61, undef), (60, undef), (59, undef), (58, undef), (57, undef), (56, undef), (55, undef), (54, undef), (53, undef), (52, undef), (51, undef), (50, undef), (49, undef), (48, undef), (47, undef), (46, undef)] (by kernel_rfl) (qT (qT (qT (qB (qT (qL (qB (qT (qB (qT (qL (qB (qT (qT (qB (qL (qB (qT (qT qZ))))))))))))))))))) (by kernel_rfl) ?_
         refine wH_done (by kernel_rfl) ?_
         refine eX_tail ?_
         refine wS_pure 4 [(69, .bool (false)), (68, undef), (67, undef), (66, undef)] (by kernel_rfl) ?_
         refine wS_end (by rfl) ?_
         refine eX_then ?_
         refine cW_prune [(0, .slice A0 (l0).length cap0), (4, .slice A3 (l2).length cap3), (5, .int .i64 (x3)), (6, .slice (some ⟨b2, 0, none⟩) (l3).length (Int.toNat (((l0).length : Int)))), (7, .int .i64 (x11)), (8, .int .i64 (x12)), (9, .int .i64 (x8)), (10, .int .i64 (x13)), (24, .int .i64 (((l0).length : Int))), (25, .int .i64 (x8)), (69, .bool (false))] (by kernel_rfl) (by kernel_rfl) (fun a3 => ?_)
         refine cW_cond_f (by kernel_rfl) ?_
         refine cW_skip ?_
         have hq : (some ((x11, x12)) : Option (Int × Int)) = some _ := hm
         replace hq := someE hq
         subst hq
         exact eX_J (fun hst => ⟨x11, x12, rfl, Fr.of hst (by kernel_rfl), F10, F11, F12, hB, hZ⟩)
       ·rintro a' w10 ⟨x14, x15, hJ, hF4, F13, F14, F15, hB, hZ⟩
        subst hJ
        refine Fr.goX hF4 (by kernel_rfl) ?_
        refine eX_block ?_
        refine eX_then ?_
        refine cW_region ?_
        refine wS_pure 3 [(10, .int .i64 (wr (x13 + 1))), (35, .int .i64 (wr (x13 + 1))), (34, .int .i64 (x13))] (by kernel_rfl) ?_
        refine wS_end (by rfl) ?_
        have hq : (some (Ctl.next ((x14, x15, wr (x13 + 1)))) : Option (Ctl (Int × Int × Int) (Int × Int))) = some _ := hm
        replace hq := someE hq
        subst hq
        exact eX_next hx4 (fun hst => ⟨x14, x15, wr (x13 + 1), rfl, Fr.of hst (by kernel_rfl), F13, F14, F15, hB, hZ⟩)
      ·have hm := condF hb3 hm
       refine cW_exit ?_
       refine eX_then_exit ?_
       have hq : (some (Ctl.out ((x11, x12))) : Option (Ctl (Int × Int × Int) (Int × Int))) = some _ := hm
       replace hq := someE hq
       subst hq
       refine eX_outX hx4 (fun hr4 => ?_)
       replace hr4 := hr4.symm
       subst hr4
       refine eX_block_hit ?_
       exact eX_J (fun hst => ⟨x11, x12, rfl, Fr.of hst (by kernel_rfl), F10, F11, F12, hB, hZ⟩)
     ·rintro a' w11 ⟨x9, x10, hJ, hF5, F16, F17, F18, hB, hZ⟩
      subst hJ
      refine Fr.goX hF5 (by kernel_rfl) ?_
      refine eX_block ?_
      refine eX_then ?_
      refine cW_region ?_
      refine wS_pure 2 [(25, .int .i64 (wr (x8 + 1))), (72, .int .i64 (wr (x8 + 1)))] (by kernel_rfl) ?_
      refine wS_end (by rfl) ?_
      have hq : (some (Ctl.next ((x9, x10, wr (x8 + 1)))) : Option (Ctl (Int × Int × Int) (Int × Int))) = some _ := hm
      replace hq := someE hq
      subst hq
      exact eX_next hx3 (fun hst => ⟨x9, x10, wr (x8 + 1), rfl, Fr.of hst (by kernel_rfl), F16, F17, F18, hB, hZ⟩)
    ·have hm := condF hb2 hm
     refine cW_exit ?_
     refine eX_then_exit ?_
     have hq : (some (Ctl.out ((x6, x7))) : Option (Ctl (Int × Int × Int) (Int × Int))) = some _ := hm
     replace hq := someE hq
     subst hq
     refine eX_outX hx3 (fun hr5 => ?_)
     replace hr5 := hr5.symm
     subst hr5
     refine eX_block_hit ?_
     exact eX_J (fun hst => ⟨x6, x7, rfl, Fr.of hst (by kernel_rfl), F7, F8, F9, hB, hZ⟩)
   ·rintro a' w12 ⟨x4, x5, hJ, hF6, F19, F20, F21, hB, hZ⟩
    subst hJ
    refine Fr.goX hF6 (by kernel_rfl) ?_
    refine eX_then ?_
    refine cW_seq ?_
    refine cW_region ?_
    refine wS_pure 4 [(76, .int .i64 (x5)), (75, .slice (some ⟨b2, 0, none⟩) (l3).length (Int.toNat (((l0).length : Int)))), (74, .int .i64 (x4)), (73, .slice (some ⟨b2, 0, none⟩) (l3).length (Int.toNat (((l0).length : Int))))] (by kernel_rfl) ?_
    obtain ⟨x22, hx11, hm⟩ := bindE hm
    refine wS_idx (d := 77) (T := 54) (A := (some ⟨b2, 0, none⟩)) (n := (l3).length) (cap := (Int.toNat (((l0).length : Int)))) (kd := .i64) (m := x4) (by kernel_rfl) sl54 ((F20.sl encB_ok).is hx11) ?_
    refine wS_storeEl (x := x22) true (T := 4) (U := 4) (cap := (Int.toNat (((l0).length : Int)))) (j := 0) (A := (some ⟨b2, 0, none⟩)) (v := .bool (true)) (vs := [.bool (true)]) (m := x4) (by kernel_rfl) (by rfl) sz4 (by rfl) encB_ok F20 hx11 (by simp only [List.length_cons, List.length_nil]; omega) (by rfl) ?_
    intro w13 F22 hc7
    replace F19 := F19.chg hc7 (Dj.of L0 G2)
    replace F21 := F21.chg hc7 (D2).symm
    replace hB := hB.inS hc7 (inLow G2)
    replace hZ := Nat.le_trans hZ hc7.size
    clear F20
    rewrite [show (l3).length = (l3.set (Int.toNat x4) true).length from (List.length_set ..).symm]
    obtain ⟨x23, hx12, hm⟩ := bindE hm
    refine wS_idx (d := 78) (T := 54) (A := (some ⟨b2, 0, none⟩)) (n := (l3.set (Int.toNat x4) true).length) (cap := (Int.toNat (((l0).length : Int)))) (kd := .i64) (m := x5) (by kernel_rfl) sl54 ((F22.sl encB_ok).is hx12) ?_
    refine wS_storeEl (x := x23) true (T := 4) (U := 4) (cap := (Int.toNat (((l0).length : Int)))) (j := 0) (A := (some ⟨b2, 0, none⟩)) (v := .bool (true)) (vs := [.bool (true)]) (m := x5) (by kernel_rfl) (by rfl) sz4 (by rfl) encB_ok F22 hx12 (by simp only [List.length_cons, List.length_nil]; omega) (by rfl) ?_
    intro w14 F23 hc8
    replace F19 := F19.chg hc8 (Dj.of L0 G2)
    replace F21 := F21.chg hc8 (D2).symm
    replace hB := hB.inS hc8 (inLow G2)
    replace hZ := Nat.le_trans hZ hc8.size
    clear F22
    rewrite [show (l3.set (Int.toNat x4) true).length = ((l3.set (Int.toNat x4) true).set (Int.toNat x5) true).length from (List.length_set ..).symm]
    refine wS_end (by rfl) ?_
    refine eX_then ?_
    refine cW_drawnTail (fp2 ++ fr2) 18 (by kernel_rfl) (by kernel_rfl) (fun w15 hc9 => ?_)
    replace F19 := F19.chg hc9 Dj.nil
    replace F23 := F23.chg hc9 Dj.nil
    replace F21 := F21.chg hc9 Dj.nil
    replace hB := hB.inS hc9 inNil
    replace hZ := Nat.le_trans hZ hc9.size
    have hS := Chg.refl (fp2 ++ fr2) w15
    have Z4 := F19
    have Z5 := F23
    have Z6 := F21
    refine wH_take [0, 1, 2, 6, 7, 8] [8, 7, 6, 2, 1, 0] [(87, .int .i64 (x4)), (86, .slice A0 (l0).length cap0), (85, .int .i64 (x3)), (81, .int .i64 (x5)), (80, .int .i64 (x4)), (79, .slice A3 (l2).length cap3)] (by kernel_rfl) (qT (qB (qL (qB (qT (qT qZ)))))) (by kernel_rfl) ?_
    obtain ⟨x24, hx13, hm⟩ := bindE hm
    refine wH_idx (i := 9) (d := 88) (T := 24) (A := A0) (n := (l0).length) (cap := cap0) (kd := .i64) (m := x4) (by kernel_rfl) (qT (qB (qL (qB (qT (qT qZ)))))) (by kernel_rfl) (by kernel_rfl) sl24 (F19.is hx13) ?_
    refine wH_loadA (i := 10) (d := 89) (T := 35) (ad := (elA A0 2 (x4) 0)) (vs := [.int .i64 (x24.1), .int .i64 (x24.2)]) (by kernel_rfl) (qT (qB (qL (qB (qT (qT qZ)))))) (by kernel_rfl) (by kernel_rfl) vt35 (fun W hW i u hu => Sl.cells_at (Z4.chg hW (Dj.of L0 G3)) hx13 0 hu (by rfl)) ?_
    refine wH_take [11, 12] [12, 11, 10, 9, 8, 7, 6, 2, 1, 0] [(91, .int .i64 (x5)), (90, .slice A0 (l0).length cap0)] (by kernel_rfl) (qT (qB (qL (qB (qT (qT qZ)))))) (by kernel_rfl) ?_
    obtain ⟨x25, hx14, hm⟩ := bindE hm
    refine wH_idx (i := 13) (d := 92) (T := 24) (A := A0) (n := (l0).length) (cap := cap0) (kd := .i64) (m := x5) (by kernel_rfl) (qT (qB (qL (qB (qT (qT qZ)))))) (by kernel_rfl) (by kernel_rfl) sl24 (F19.is hx14) ?_
    refine wH_loadA (i := 14) (d := 93) (T := 35) (ad := (elA A0 2 (x5) 0)) (vs := [.int .i64 (x25.1), .int .i64 (x25.2)]) (by kernel_rfl) (qT (qB (qL (qB (qT (qT qZ)))))) (by kernel_rfl) (by kernel_rfl) vt35 (fun W hW i u hu => Sl.cells_at (Z4.chg hW (Dj.of L0 G3)) hx14 0 hu (by rfl)) ?_
    refine wH_all [3] (by rfl) (by kernel_rfl) (by simp) ⟨⟨by kernel_rfl, ?_⟩, trivial⟩
    refine wS_bs (enc := encI) ([x4, x5] : List (Int)) [.int .i64 (x4), .int .i64 (x5)] (d := 82) (t := 32) (T := 2) (n := 2) (ps := [(0, .int .i64 (x4)), (1, .int .i64 (x5))]) (by kernel_rfl) el32 encI_ok (by rfl) (by omega) (by omega) (by kernel_rfl) (by rfl) ?_
    intro b3 w16 G4 F24 hc10
    have D3 : Dj [b2] [b3] := Dj.of F23.low (low1 G4)
    have D4 : Dj (fp2 ++ fr2) [b3] := Dj.of F21.low (low1 G4)
    replace F19 := F19.chg hc10 Dj.nil
    replace F23 := F23.chg hc10 Dj.nil
    replace F21 := F21.chg hc10 Dj.nil
    replace hB := hB.inS hc10 inNil
    have hSz := hS
    replace hS := hS.inS hc10 inNil
    have Gz1 := low1 (Nat.le_trans hSz.size G4)
    replace G4 := Nat.le_trans hZ G4
    replace G4 := low1 G4
    replace hZ := Nat.le_trans hZ hc10.size
    refine wS_end (by kernel_rfl) ?_
    refine eX_KH hS ?_
    refine wH_all [4] (by rfl) (by kernel_rfl) (by simp) ⟨⟨by kernel_rfl, ?_⟩, trivial⟩
    refine wS_row1 (k := 1) (enc := encI) (l := ([x4, x5] : List (Int))) (d := 83) (t := 26) (T := 32) (B := (some ⟨b3, 0, none⟩)) (c := 2) (by kernel_rfl) el26 F24 ?_
    intro b4 w17 G5 F25 hc11
    have D5 : Dj [b2] ([b4] ++ [b3]) := Dj.app (Dj.of F23.low (low1 G5)) D3
    have D6 : Dj (fp2 ++ fr2) ([b4] ++ [b3]) := Dj.app (Dj.of F21.low (low1 G5)) D4
    replace F19 := F19.chg hc11 Dj.nil
    replace F23 := F23.chg hc11 Dj.nil
    replace F21 := F21.chg hc11 Dj.nil
    replace F24 := F24.chg hc11 Dj.nil
    replace hB := hB.inS hc11 inNil
    have hSz := hS
    replace hS := hS.inS hc11 inNil
    replace G5 := Nat.le_trans hZ G5
    replace G5 := lowApp (low1 G5) G4
    replace hZ := Nat.le_trans hZ hc11.size
    replace F24 := (F24.sl encI_ok)
    refine wS_end (by kernel_rfl) ?_
    refine eX_KH hS ?_
    refine wH_all [5] (by rfl) (by kernel_rfl) (by simp) ⟨⟨by kernel_rfl, ?_⟩, trivial⟩
    obtain ⟨_, hk2, hm⟩ := bindE hm
    replace hk2 := apE hk2
    refine wS_appendR (k := 1) (enc := encI) (ll := (l2 : List (List (Int)))) (ll2 := (([([x4, x5] : List (Int))] : List (List (Int))) : List (List (Int)))) (d := 84) (t := 26) (T := 32) (A := A3) (A2 := (some ⟨b4, 0, none⟩)) (cap := cap3) (cap2 := 1) (by kernel_rfl) el26 F21 F25 (by rfl) D6 hk2 ?_
    intro w18 fp3 A4 cap4 F26 hc12 hp1
    have G6 := lowApp (low_ap (low_inl G3) hZ hp1) (lowApp (low_inr G3) (low_inr G5))
    have D7 : Dj [b2] (fp3 ++ (fr2 ++ [b3])) := Dj.app (Dj.ap (Dj.inl D2) F23.low hp1) (Dj.app (Dj.inr D2) (Dj.inr D5))
    replace F19 := F19.chg hc12 (Dj.inl (Dj.of L0 G3))
    replace F23 := F23.chg hc12 (Dj.inl D2)
    replace hB := hB.inS hc12 (memS_inl (inLow G3))
    have hSz := hS
    replace hS := hS.trans (hc12.more (fun x hx => List.mem_append_left _ hx))
    replace hZ := Nat.le_trans hZ hc12.size
    refine wS_end (by kernel_rfl) ?_
    refine eX_KH hS ?_
    refine wH_all [15] (by rfl) (by kernel_rfl) (by simp) ⟨⟨by kernel_rfl, ?_⟩, trivial⟩
    obtain ⟨y3, hy3, hm⟩ := bindE hm
    refine wS_calls (d := 94) (f := 24) (vs := [.agg #[.int .i64 (x24.1), .int .i64 (x24.2)], .agg #[.int .i64 (x25.1), .int .i64 (x25.2)]]) (by kernel_rfl) ent24 (c_impl_far hy3) ?_
    rintro _ w19 ⟨rfl, hc13⟩
    replace F19 := F19.chg hc13 Dj.nil
    replace F23 := F23.chg hc13 Dj.nil
    replace F26 := F26.chg hc13 Dj.nil
    replace hB := hB.inS hc13 inNil
    have hSz := hS
    replace hS := hS.inS hc13 inNil
    replace hZ := Nat.le_trans hZ hc13.size
    refine ⟨.int .i64 (y3), rfl, ?_⟩
    refine wS_end (by kernel_rfl) ?_
    refine eX_KH hS ?_
    refine wH_take [16, 17] [17, 16, 15, 5, 4, 3, 14, 13, 12, 11, 10, 9, 8, 7, 6, 2, 1, 0] [(4, .slice A4 (l2 ++ (([([x4, x5] : List (Int))] : List (List (Int))))).length cap4), (95, .int .i64 (wr (x3 + y3)))] (by kernel_rfl) (qT (qB (qL (qB (qT (qT qZ)))))) (by kernel_rfl) ?_
    refine wH_done (by kernel_rfl) ?_
    refine eX_tail ?_
    refine wS_pure 1 [(5, .int .i64 (wr (x3 + y3)))] (by kernel_rfl) ?_
    refine wS_end (by rfl) ?_
    refine eX_block ?_
    have hq : (some (Ctl.next ((l2 ++ (([([x4, x5] : List (Int))] : List (List (Int)))), wr (x3 + y3), (l3.set (Int.toNat x4) true).set (Int.toNat x5) true))) : Option (Ctl ((List (List (Int))) × Int × (List (Bool))) ((List (List (Int))) × Int))) = some _ := hm
    replace hq := someE hq
    subst hq
    exact eX_next hx2 (fun hst => ⟨l2 ++ (([([x4, x5] : List (Int))] : List (List (Int)))), A4, cap4, fp3, (fr2 ++ [b3]), wr (x3 + y3), (l3.set (Int.toNat x4) true).set (Int.toNat x5) true, rfl, Fr.of hst (by kernel_rfl), F19, F23, F26, G6, D7, hB, hZ⟩)
  ·have hm := condF hb1 hm
   refine cW_exit ?_
   refine eX_then_exit ?_
   have hq : (some (Ctl.out ((l2, x3))) : Option (Ctl ((List (List (Int))) × Int × (List (Bool))) ((List (List (Int))) × Int))) = some _ := hm
   replace hq := someE hq
   subst hq
   refine eX_outX hx2 (fun hr6 => ?_)
   replace hr6 := hr6.symm
   subst hr6
   refine eX_block_hit ?_
   exact eX_J (fun hst => ⟨l2, A3, cap3, fp2, fr2, x3, rfl, Fr.of hst (by kernel_rfl), F6, G3, hB, hZ⟩)
 ·rintro a' w20 ⟨l1, A1, cap1, fp1, fr1, x2, hJ, hF7, F27, G7, hB, hZ⟩
  subst hJ
  refine Fr.goX hF7 (by kernel_rfl) ?_
  refine eX_then ?_
  refine cW_seq ?_
  refine cW_region ?_
  refine wS_pure 1 [(96, .slice A1 (l1).length cap1)] (by kernel_rfl) ?_
  obtain ⟨y4, hy4, hm⟩ := bindE hm
  refine wS_calls (d := 97) (f := 25) (vs := [.slice A1 (l1).length cap1, .func (.func 26) #[] #[]]) (by kernel_rfl) ent25 (c_slices_SortFunc_int64_int64_slices_Compare_int64_int64 hy4 F27) ?_
  rintro _ w21 ⟨rfl, F28, hl1, hc14⟩
  replace hB := hB.inS hc14 (inApp (inLow G7) inNil)
  replace hZ := Nat.le_trans hZ hc14.size
  clear F27
  refine ⟨.tuple #[], rfl, ?_⟩
  rewrite [(show (l1).length = (y4).length from hl1.symm)]
  refine wS_end (by rfl) ?_
  refine eX_then ?_
  refine cW_seq ?_
  refine cW_region ?_
  refine wS_pure 4 [(3, .int .i64 (x2)), (2, .slice A1 (y4).length cap1), (99, .int .i64 (x2)), (98, .slice A1 (y4).length cap1)] (by kernel_rfl) ?_
  refine wS_end (by rfl) ?_
  refine eX_then ?_
  refine cW_ret ?_
  have hq : (some ((y4, x2)) : Option ((List (List (Int))) × (Int))) = some _ := hm
  replace hq := someE hq
  subst hq
  refine eX_ret (vs := [.slice A1 (y4).length cap1, .int .i64 (x2)]) [.tmp 2, .tmp 3] (by rfl) ⟨by (show lkE _ _ _ = _); kernel_rfl, ⟨by (show lkE _ _ _ = _); kernel_rfl, trivial⟩⟩ ?_
  exact ⟨A1, cap1, fp1, fr1, rfl, F28, G7, hB⟩

set_option maxRecDepth 100000 in
/-- impl.SpanningTree -/
theorem c_impl_SpanningTree {w0 : World} {l0 : List (Int × Int)} {A0 : Option Addr} {cap0 : Nat} {fp0 : List Nat} {r : (List (List (Int))) × (Int) × (Bool)} (hm : m_impl_SpanningTree l0 = some r) (F0 : Sl 2 encII w0 fp0 A0 l0) :
  Calls Try.prog 6 #[.slice A0 (l0).length cap0] w0 fun e w' => ∃ A100 cap100 fp100 fr100, e = .returned (.tuple #[.slice A100 (r.1).length cap100, .int .i64 (r.2.1), .bool (r.2.2)]) ∧ OwR 1 encI 32 2 w' fp100 fr100 A100 cap100 r.1 ∧ (∀ x ∈ fp100 ++ fr100, w0.heap.size ≤ x) ∧ Chg [] w0 w' := by
 have L0 := F0.low
 have hB : Chg [] w0 w0 := Chg.refl _ _
 have hZ := Nat.le_refl w0.heap.size
 unfold m_impl_SpanningTree at hm
 refine enterE (N := 17) Try.func6 (by rfl) Try.ntmps6 (by simp) [(0, .slice A0 (l0).length cap0)] (by rfl) (by kernel_rfl) (fun a => ?_)
 refine cW_seq ?_
 refine cW_region ?_
 refine wS_pure 3 [(4, .bool (false)), (3, .int .i64 (0)), (2, .slice none 0 0)] (by kernel_rfl) ?_
 refine wS_end (by rfl) ?_
 refine eX_then ?_
 refine cW_seq ?_
 refine cW_seq ?_
 refine cW_region ?_
 refine wS_pure 1 [(7, .slice A0 (l0).length cap0)] (by kernel_rfl) ?_
 obtain ⟨y1, hy1, hm⟩ := bindE hm
 refine wS_calls (d := 8) (f := 8) (vs := [.slice A0 (l0).length cap0]) (by kernel_rfl) ent8 (c_impl_ArePins hy1 F0) ?_
 rintro _ w1 ⟨rfl, hc1⟩
 replace F0 := F0.chg hc1 Dj.nil
 replace hB := hB.inS hc1 inNil
 replace hZ := Nat.le_trans hZ hc1.size
 refine ⟨.bool (y1), rfl, ?_⟩
 refine wS_pure 1 [(9, .bool (!y1))] (by kernel_rfl) ?_
 refine wS_end (by rfl) ?_
 refine eX_then ?_
 refine cW_cond (t := !y1) (by kernel_rfl) (fun hb1 => ?_) (fun hb1 => ?_)
 ·have hm := condT hb1 hm
  refine cW_seq ?_
  refine cW_region ?_
  refine wS_pure 3 [(4, .bool (false)), (3, .int .i64 (0)), (2, .slice none 0 0)] (by kernel_rfl) ?_
  refine wS_end (by rfl) ?_
  refine eX_then ?_
  refine cW_ret ?_
  refine eX_then_ret ?_
  have hq : (some (([], 0, false)) : Option ((List (List (Int))) × (Int) × (Bool))) = some _ := hm
  replace hq := someE hq
  subst hq
  refine eX_ret (vs := [.slice none 0 0, .int .i64 (0), .bool (false)]) [.tmp 2, .tmp 3, .tmp 4] (by rfl) ⟨by (show lkE _ _ _ = _); kernel_rfl, ⟨by (show lkE _ _ _ = _); kernel_rfl, ⟨by (show lkE _ _ _ = _); kernel_rfl, trivial⟩⟩⟩ ?_
  exact ⟨none, 0, [], [], rfl, OwR.nil _, (lowApp lowNil lowNil), hB⟩
 ·have hm := condF hb1 hm
  refine cW_skip ?_
  refine eX_then ?_
  refine cW_seq ?_
  refine cW_region ?_
  refine wS_pure 1 [(11, .slice A0 (l0).length cap0)] (by kernel_rfl) ?_
  obtain ⟨y2, hy2, hm⟩ := bindE hm
  refine wS_calls (d := 12) (f := 16) (vs := [.slice A0 (l0).length cap0]) (by kernel_rfl) ent16 (c_impl_spanning hy2 F0) ?_
  rintro _ w2 ⟨A1, cap1, fp1, fr1, rfl, F1, G1, hc2⟩
  replace F0 := F0.chg hc2 Dj.nil
  replace hB := hB.inS hc2 inNil
  replace G1 := low_le hZ G1
  replace hZ := Nat.le_trans hZ hc2.size
  refine ⟨.tuple #[.slice A1 (y2.1).length cap1, .int .i64 (y2.2)], rfl, ?_⟩
  refine wS_pure 5 [(6, .int .i64 (y2.2)), (5, .slice A1 (y2.1).length cap1), (14, .int .i64 (y2.2)), (13, .slice A1 (y2.1).length cap1), (10, .tuple #[.slice A1 (y2.1).length cap1, .int .i64 (y2.2)])] (by kernel_rfl) ?_
  refine wS_end (by rfl) ?_
  refine eX_then ?_
  refine cW_seq ?_
  refine cW_region ?_
  refine wS_pure 5 [(4, .bool (true)), (3, .int .i64 (y2.2)), (2, .slice A1 (y2.1).length cap1), (16, .int .i64 (y2.2)), (15, .slice A1 (y2.1).length cap1)] (by kernel_rfl) ?_
  refine wS_end (by rfl) ?_
  refine eX_then ?_
  refine cW_ret ?_
  have hq : (some ((y2.1, y2.2, true)) : Option ((List (List (Int))) × (Int) × (Bool))) = some _ := hm
  replace hq := someE hq
  subst hq
  refine eX_ret (vs := [.slice A1 (y2.1).length cap1, .int .i64 (y2.2), .bool (true)]) [.tmp 2, .tmp 3, .tmp 4] (by rfl) ⟨by (show lkE _ _ _ = _); kernel_rfl, ⟨by (show lkE _ _ _ = _); kernel_rfl, ⟨by (show lkE _ _ _ = _); kernel_rfl, trivial⟩⟩⟩ ?_
  exact ⟨A1, cap1, fp1, fr1, rfl, F1, G1, hB⟩

set_option maxRecDepth 100000 in
/-- impl.hanan -/
theorem c_impl_hanan {w0 : World} {l0 : List (Int × Int)} {A0 : Option Addr} {cap0 : Nat} {fp0 : List Nat} {r : (List (Int × Int))} (hm : m_impl_hanan l0 = some r) (F0 : Sl 2 encII w0 fp0 A0 l0) :
  Calls Try.prog 30 #[.slice A0 (l0).length cap0] w0 fun e w' => ∃ A100 cap100 fp100, e = .returned (.slice A100 (r).length cap100) ∧ Ow 2 encII 35 w' fp100 A100 cap100 r ∧ (∀ x ∈ fp100, w0.heap.size ≤ x) ∧ Chg [] w0 w' := by
 have L0 := F0.low
 have hB : Chg [] w0 w0 := Chg.refl _ _
 have hZ := Nat.le_refl w0.heap.size
 unfold m_impl_hanan at hm
 refine enterE (N := 33) Try.func30 (by rfl) Try.ntmps30 (by simp) [(0, .slice A0 (l0).length cap0)] (by rfl) (by kernel_rfl) (fun a => ?_)
 refine cW_seq ?_
 refine cW_region ?_
 refine wS_pure 1 [(2, .slice none 0 0)] (by kernel_rfl) ?_
 refine wS_end (by rfl) ?_
 refine eX_then ?_
 refine cW_seq ?_
 refine cW_region ?_
 refine wS_bs0 (α := Int × Int) (enc := encII) (d := 8) (t := 24) (T := 35) (by kernel_rfl) el24 ?_
 intro b1 w1 G1 F1 hc1
 replace F0 := F0.chg hc1 Dj.nil
 replace hB := hB.inS hc1 inNil
 replace G1 := Nat.le_trans hZ G1
 replace G1 := low1 G1
 replace hZ := Nat.le_trans hZ hc1.size
 refine wS_pure 1 [(3, .slice (some ⟨b1, 0, none⟩) (([] : List (Int × Int))).length 0)] (by kernel_rfl) ?_
 refine wS_end (by rfl) ?_
 refine eX_then ?_
 refine cW_seq ?_
 refine cW_seq ?_
 refine cW_region ?_
 refine wS_pure 3 [(11, .int .i64 (0)), (10, .int .i64 (((l0).length : Int))), (9, .slice A0 (l0).length cap0)] (by kernel_rfl) ?_
 refine wS_end (by rfl) ?_
 refine eX_then ?_
 obtain ⟨r1, hr1, hm⟩ := bindE hm
 have hm1 := hm
 refine cW_cut (fun a' w' => ∃ l1 : List (Int × Int), ∃ A1 : Option Addr, ∃ cap1 : Nat, ∃ fp1 : List Nat, l1 = r1 ∧ Fr 33 [(3, .slice A1 (l1).length cap1)] a' ∧ Ow 2 encII 35 w' fp1 A1 cap1 l1 ∧ (∀ x ∈ fp1, w0.heap.size ≤ x) ∧ Chg [] w0 w' ∧ w0.heap.size ≤ w'.heap.size) ?_ ?_
 ·refine cW_block ?_
  refine cW_loop _ (fun (s1 : (List (Int × Int)) × Int) a' w' => ∃ l3 : List (Int × Int), ∃ A3 : Option Addr, ∃ cap3 : Nat, ∃ fp2 : List Nat, ∃ x1 : Int, (l3, x1) = s1 ∧ Fr 33 [(0, .slice A0 (l0).length cap0), (3, .slice A3 (l3).length cap3), (9, .slice A0 (l0).length cap0), (10, .int .i64 (((l0).length : Int))), (11, .int .i64 (x1))] a' ∧ Sl 2 encII w' fp0 A0 l0 ∧ Ow 2 encII 35 w' fp2 A3 cap3 l3 ∧ (∀ x ∈ fp2, w0.heap.size ≤ x) ∧ Chg [] w0 w' ∧ w0.heap.size ≤ w'.heap.size) hr1 (fun hst => ⟨([] : List (Int × Int)), (some ⟨b1, 0, none⟩), 0, [b1], 0, rfl, Fr.of hst (by kernel_rfl), F0, F1, G1, hB, hZ⟩) ?_
  rintro _ c1 a' w2 ⟨l3, A3, cap3, fp2, x1, rfl, hF1, F2, F3, G2, hB, hZ⟩ hx1
  refine Fr.goOn hF1 (by kernel_rfl) ?_
  have hm := hx1
  unfold m_impl_hanan_s3 at hm
  refine cW_seq ?_
  refine cW_region ?_
  refine wS_pure 1 [(12, .bool (decide (x1 < (((l0).length : Int)))))] (by kernel_rfl) ?_
  refine wS_end (by rfl) ?_
  refine eX_then ?_
  refine cW_seq ?_
  refine cW_cond (t := decide (x1 < (((l0).length : Int)))) (by kernel_rfl) (fun hb1 => ?_) (fun hb1 => ?_)
  ·have hm := condT hb1 hm
   refine cW_skip ?_
   refine eX_then ?_
   refine cW_seq ?_
   refine cW_block ?_
   refine cW_seq ?_
   refine cW_region ?_
   obtain ⟨x2, hx2, hm⟩ := bindE hm
   refine wS_idx (d := 13) (T := 24) (A := A0) (n := (l0).length) (cap := cap0) (kd := .i64) (m := x1) (by kernel_rfl) sl24 (F2.is hx2) ?_
   refine wS_loadA (d := 14) (T := 35) (ad := (elA A0 2 (x1) 0)) (vs := [.int .i64 (x2.1), .int .i64 (x2.2)]) (by kernel_rfl) vt35 (fun i u hu => Sl.cells_at F2 hx2 0 hu (by rfl)) ?_
   refine wS_alloc (d := 5) (T := 35) (z := .agg #[.int .i64 (0), .int .i64 (0)]) (by kernel_rfl) (by kernel_rfl) ?_
   intro b2 w3 G3 F4 hc2
   replace F4 : Cl w3 b2 35 [.int .i64 (0), .int .i64 (0)] := F4
   have D1 : Dj fp2 [b2] := Dj.of F3.low (low1 G3)
   replace F2 := F2.chg hc2 Dj.nil
   replace F3 := F3.chg hc2 Dj.nil
   replace hB := hB.inS hc2 inNil
   replace G3 := Nat.le_trans hZ G3
   replace hZ := Nat.le_trans hZ hc2.size
   refine wS_store (T := 35) (g := b2) (o := 0) (ad := ⟨b2, 0, none⟩) (v := .agg #[.int .i64 (x2.1), .int .i64 (x2.2)]) (vs := [.int .i64 (x2.1), .int .i64 (x2.2)]) (by kernel_rfl) (by rfl) sz35 (by rfl) (by rfl) F4 (by simp only [List.length_cons, List.length_nil]; omega) ?_
   intro w4 F5 hc3
   replace F2 := F2.chg hc3 (Dj.of L0 (low1 G3))
   replace F3 := F3.chg hc3 D1
   replace hB := hB.inS hc3 (inLow (low1 G3))
   replace hZ := Nat.le_trans hZ hc3.size
   replace F5 : Cl w4 b2 35 [.int .i64 (x2.1), .int .i64 (x2.2)] := F5
   clear F4
   refine wS_end (by rfl) ?_
   refine eX_then ?_
   refine cW_seq ?_
   refine cW_region ?_
   refine wS_pure 3 [(17, .int .i64 (0)), (16, .int .i64 (((l0).length : Int))), (15, .slice A0 (l0).length cap0)] (by kernel_rfl) ?_
   refine wS_end (by rfl) ?_
   refine eX_then ?_
   obtain ⟨r2, hr2, hm⟩ := bindE hm
   have hm2 := hm
   refine cW_cut (fun a' w' => ∃ l4 : List (Int × Int), ∃ A4 : Option Addr, ∃ cap4 : Nat, ∃ fp3 : List Nat, l4 = r2 ∧ Fr 33 [(0, .slice A0 (l0).length cap0), (3, .slice A4 (l4).length cap4), (9, .slice A0 (l0).length cap0), (10, .int .i64 (((l0).length : Int))), (11, .int .i64 (x1))] a' ∧ Sl 2 encII w' fp0 A0 l0 ∧ Ow 2 encII 35 w' fp3 A4 cap4 l4 ∧ (∀ x ∈ fp3, w0.heap.size ≤ x) ∧ Chg [] w0 w' ∧ w0.heap.size ≤ w'.heap.size) ?_ ?_
   ·refine cW_block ?_
    refine cW_loop _ (fun (s2 : (List (Int × Int)) × Int) a' w' => ∃ l5 : List (Int × Int), ∃ A5 : Option Addr, ∃ cap5 : Nat, ∃ fp4 : List Nat, ∃ x3 : Int, (l5, x3) = s2 ∧ Fr 33 [(0, .slice A0 (l0).length cap0), (3, .slice A5 (l5).length cap5), (5, .pointer (some ⟨b2, 0, none⟩)), (9, .slice A0 (l0).length cap0), (10, .int .i64 (((l0).length : Int))), (11, .int .i64 (x1)), (15, .slice A0 (l0).length cap0), (16, .int .i64 (((l0).length : Int))), (17, .int .i64 (x3))] a' ∧ Sl 2 encII w' fp0 A0 l0 ∧ Cl w' b2 35 [.int .i64 (x2.1), .int .i64 (x2.2)] ∧ Ow 2 encII 35 w' fp4 A5 cap5 l5 ∧ (∀ x ∈ fp4, w0.heap.size ≤ x) ∧ Dj [b2] fp4 ∧ Chg [] w0 w' ∧ w0.heap.size ≤ w'.heap.size) hr2 (fun hst => ⟨l3, A3, cap3, fp2, 0, rfl, Fr.of hst (by kernel_rfl), F2, F5, F3, G2, (D1).symm, hB, hZ⟩) ?_
    rintro _ c2 a' w5 ⟨l5, A5, cap5, fp4, x3, rfl, hF2, F6, F7, F8, G4, D2, hB, hZ⟩ hx3
    refine Fr.goOn hF2 (by kernel_rfl) ?_
    have hm := hx3
    unfold m_impl_hanan_s4 at hm
    refine cW_seq ?_
    refine cW_region ?_
    refine wS_pure 1 [(18, .bool (decide (x3 < (((l0).length : Int)))))] (by kernel_rfl) ?_
    refine wS_end (by rfl) ?_
    refine eX_then ?_
    refine cW_seq ?_
    refine cW_cond (t := decide (x3 < (((l0).length : Int)))) (by kernel_rfl) (fun hb2 => ?_) (fun hb2 => ?_)
    ·have hm := condT hb2 hm
     refine cW_skip ?_
     refine eX_then ?_
     refine cW_seq ?_
     refine cW_block ?_
     refine cW_seq ?_
     refine cW_region ?_
     obtain ⟨x4, hx4, hm⟩ := bindE hm
     refine wS_idx (d := 19) (T := 24) (A := A0) (n := (l0).length) (cap := cap0) (kd := .i64) (m := x3) (by kernel_rfl) sl24 (F6.is hx4) ?_
     refine wS_loadA (d := 20) (T := 35) (ad := (elA A0 2 (x3) 0)) (vs := [.int .i64 (x4.1), .int .i64 (x4.2)]) (by kernel_rfl) vt35 (fun i u hu => Sl.cells_at F6 hx4 0 hu (by rfl)) ?_
     refine wS_alloc (d := 7) (T := 35) (z := .agg #[.int .i64 (0), .int .i64 (0)]) (by kernel_rfl) (by kernel_rfl) ?_
     intro b3 w6 G5 F9 hc4
     replace F9 : Cl w6 b3 35 [.int .i64 (0), .int .i64 (0)] := F9
     have D3 : Dj [b2] [b3] := Dj.of (lt1 F7.lt) (low1 G5)
     have D4 : Dj fp4 [b3] := Dj.of F8.low (low1 G5)
     replace F6 := F6.chg hc4 Dj.nil
     replace F7 := F7.chg hc4 notNil
     replace F8 := F8.chg hc4 Dj.nil
     replace hB := hB.inS hc4 inNil
     replace G5 := Nat.le_trans hZ G5
     replace hZ := Nat.le_trans hZ hc4.size
     refine wS_store (T := 35) (g := b3) (o := 0) (ad := ⟨b3, 0, none⟩) (v := .agg #[.int .i64 (x4.1), .int .i64 (x4.2)]) (vs := [.int .i64 (x4.1), .int .i64 (x4.2)]) (by kernel_rfl) (by rfl) sz35 (by rfl) (by rfl) F9 (by simp only [List.length_cons, List.length_nil]; omega) ?_
     intro w7 F10 hc5
     replace F6 := F6.chg hc5 (Dj.of L0 (low1 G5))
     replace F7 := F7.chg hc5 (dj1 D3)
     replace F8 := F8.chg hc5 D4
     replace hB := hB.inS hc5 (inLow (low1 G5))
     replace hZ := Nat.le_trans hZ hc5.size
     replace F10 : Cl w7 b3 35 [.int .i64 (x4.1), .int .i64 (x4.2)] := F10
     clear F9
     refine wS_end (by rfl) ?_
     refine eX_then ?_
     refine cW_region ?_
     refine wS_pure 2 [(22, .pointer (some ⟨b2, 0, none⟩)), (21, .slice A5 (l5).length cap5)] (by kernel_rfl) ?_
     refine wS_load1 (d := 23) (T := 2) (ad := ⟨b2, 0, none⟩) (v := .int .i64 (x2.1)) (by kernel_rfl) vt2 ((F7).cell 0) ?_
     refine wS_pure 1 [(24, .pointer (some ⟨b3, 1, none⟩))] (by kernel_rfl) ?_
     refine wS_load1 (d := 25) (T := 2) (ad := ⟨b3, 1, none⟩) (v := .int .i64 (x4.2)) (by kernel_rfl) vt2 ((F10).cell 1) ?_
     refine wS_pure 1 [(26, .agg #[.int .i64 (x2.1), .int .i64 (x4.2)])] (by kernel_rfl) ?_
     refine wS_bs (enc := encII) ([(x2.1, x4.2)] : List (Int × Int)) [.int .i64 (x2.1), .int .i64 (x4.2)] (d := 27) (t := 24) (T := 35) (n := 1) (ps := [(0, .agg #[.int .i64 (x2.1), .int .i64 (x4.2)])]) (by kernel_rfl) el24 encII_ok (by rfl) (by omega) (by omega) (by kernel_rfl) (by rfl) ?_
     intro b4 w8 G6 F11 hc6
     have D5 : Dj [b2] [b4] := Dj.of (lt1 F7.lt) (low1 G6)
     have D6 : Dj fp4 [b4] := Dj.of F8.low (low1 G6)
     have D7 : Dj [b3] [b4] := Dj.of (lt1 F10.lt) (low1 G6)
     replace F6 := F6.chg hc6 Dj.nil
     replace F7 := F7.chg hc6 notNil
     replace F8 := F8.chg hc6 Dj.nil
     replace F10 := F10.chg hc6 notNil
     replace hB := hB.inS hc6 inNil
     replace G6 := Nat.le_trans hZ G6
     replace G6 := low1 G6
     replace hZ := Nat.le_trans hZ hc6.size
     obtain ⟨_, hk1, hm⟩ := bindE hm
     replace hk1 := apE hk1
     refine wS_append (enc := encII) (l := (l5 : List (Int × Int))) (l2 := (([(x2.1, x4.2)] : List (Int × Int)) : List (Int × Int))) (d := 28) (t := 24) (T := 35) (A := A5) (A2 := (some ⟨b4, 0, none⟩)) (cap := cap5) (cap2 := 1) (by kernel_rfl) el24 encII_ok F8 (F11.sl encII_ok) (by rfl) hk1 ?_
     intro w9 fp5 A6 cap6 F12 hc7 hp1
     have G7 := low_ap G4 hZ hp1
     have D8 : Dj [b2] fp5 := Dj.ap D2 (lt1 F7.lt) hp1
     have D9 : Dj [b3] fp5 := Dj.ap (D4).symm (lt1 F10.lt) hp1
     have D10 : Dj [b4] fp5 := Dj.ap (D6).symm F11.low hp1
     replace F6 := F6.chg hc7 (Dj.of L0 G4)
     replace F7 := F7.chg hc7 (dj1 D2)
     replace F10 := F10.chg hc7 (dj1 (D4).symm)
     replace F11 := F11.chg hc7 (D6).symm
     replace hB := hB.inS hc7 (inLow G4)
     replace hZ := Nat.le_trans hZ hc7.size
     refine wS_pure 1 [(3, .slice A6 (l5 ++ (([(x2.1, x4.2)] : List (Int × Int)))).length cap6)] (by kernel_rfl) ?_
     refine wS_end (by rfl) ?_
     refine eX_block ?_
     refine eX_then ?_
     refine cW_region ?_
     refine wS_pure 2 [(17, .int .i64 (wr (x3 + 1))), (29, .int .i64 (wr (x3 + 1)))] (by kernel_rfl) ?_
     refine wS_end (by rfl) ?_
     have hq : (some (Ctl.next ((l5 ++ (([(x2.1, x4.2)] : List (Int × Int))), wr (x3 + 1)))) : Option (Ctl ((List (Int × Int)) × Int) ((List (Int × Int))))) = some _ := hm
     replace hq := someE hq
     subst hq
     exact eX_next hx3 (fun hst => ⟨l5 ++ (([(x2.1, x4.2)] : List (Int × Int))), A6, cap6, fp5, wr (x3 + 1), rfl, Fr.of hst (by kernel_rfl), F6, F7, F12, G7, D8, hB, hZ⟩)
    ·have hm := condF hb2 hm
     refine cW_exit ?_
     refine eX_then_exit ?_
     have hq : (some (Ctl.out l5) : Option (Ctl ((List (Int × Int)) × Int) ((List (Int × Int))))) = some _ := hm
     replace hq := someE hq
     subst hq
     refine eX_outX hx3 (fun hr3 => ?_)
     replace hr3 := hr3.symm
     subst hr3
     refine eX_block_hit ?_
     exact eX_J (fun hst => ⟨l5, A5, cap5, fp4, rfl, Fr.of hst (by kernel_rfl), F6, F8, G4, hB, hZ⟩)
   ·rintro a' w10 ⟨l4, A4, cap4, fp3, hJ, hF3, F13, F14, G8, hB, hZ⟩
    subst hJ
    refine Fr.goX hF3 (by kernel_rfl) ?_
    refine eX_block ?_
    refine eX_then ?_
    refine cW_region ?_
    refine wS_pure 2 [(11, .int .i64 (wr (x1 + 1))), (30, .int .i64 (wr (x1 + 1)))] (by kernel_rfl) ?_
    refine wS_end (by rfl) ?_
    have hq : (some (Ctl.next ((l4, wr (x1 + 1)))) : Option (Ctl ((List (Int × Int)) × Int) ((List (Int × Int))))) = some _ := hm
    replace hq := someE hq
    subst hq
    exact eX_next hx1 (fun hst => ⟨l4, A4, cap4, fp3, wr (x1 + 1), rfl, Fr.of hst (by kernel_rfl), F13, F14, G8, hB, hZ⟩)
  ·have hm := condF hb1 hm
   refine cW_exit ?_
   refine eX_then_exit ?_
   have hq : (some (Ctl.out l3) : Option (Ctl ((List (Int × Int)) × Int) ((List (Int × Int))))) = some _ := hm
   replace hq := someE hq
   subst hq
   refine eX_outX hx1 (fun hr4 => ?_)
   replace hr4 := hr4.symm
   subst hr4
   refine eX_block_hit ?_
   exact eX_J (fun hst => ⟨l3, A3, cap3, fp2, rfl, Fr.of hst (by kernel_rfl), F3, G2, hB, hZ⟩)
 ·rintro a' w11 ⟨l1, A1, cap1, fp1, hJ, hF4, F15, G9, hB, hZ⟩
  subst hJ
  refine Fr.goX hF4 (by kernel_rfl) ?_
  refine eX_then ?_
  refine cW_seq ?_
  refine cW_region ?_
  refine wS_pure 1 [(31, .slice A1 (l1).length cap1)] (by kernel_rfl) ?_
  obtain ⟨y1, hy1, hm⟩ := bindE hm
  refine wS_calls (d := 32) (f := 29) (vs := [.slice A1 (l1).length cap1]) (by kernel_rfl) ent29 (c_impl_sorted hy1 (F15.sl encII_ok)) ?_
  rintro _ w12 ⟨A7, cap7, fp6, rfl, F16, G10, hc8⟩
  have D11 : Dj fp1 fp6 := Dj.of F15.low G10
  replace F15 := F15.chg hc8 Dj.nil
  replace hB := hB.inS hc8 inNil
  replace G10 := low_le hZ G10
  replace hZ := Nat.le_trans hZ hc8.size
  refine ⟨.slice A7 (y1).length cap7, rfl, ?_⟩
  refine wS_pure 1 [(2, .slice A7 (y1).length cap7)] (by kernel_rfl) ?_
  refine wS_end (by rfl) ?_
  refine eX_then ?_
  refine cW_ret ?_
  have hq : (some y1 : Option ((List (Int × Int)))) = some _ := hm
  replace hq := someE hq
  subst hq
  refine eX_ret (vs := [.slice A7 (y1).length cap7]) [.tmp 2] (by rfl) ⟨by (show lkE _ _ _ = _); kernel_rfl, trivial⟩ ?_
  exact ⟨A7, cap7, fp6, rfl, F16, G10, hB⟩

set_option maxRecDepth 100000 in
/-- slices.Clone[[]int64,int64] -/
theorem c_slices_Clone_int64_int64 {w0 : World} {l0 : List (Int)} {A0 : Option Addr} {cap0 : Nat} {fp0 : List Nat} {r : (List (Int))} (hm : m_slices_Clone_int64_int64 l0 = some r) (F0 : Sl 1 encI w0 fp0 A0 l0) :
  Calls Try.prog 31 #[.slice A0 (l0).length cap0] w0 fun e w' => ∃ A100 cap100 fp100, e = .returned (.slice A100 (r).length cap100) ∧ Ow 1 encI 2 w' fp100 A100 cap100 r ∧ (∀ x ∈ fp100, w0.heap.size ≤ x) ∧ Chg [] w0 w' := by
 have L0 := F0.low
 have hB : Chg [] w0 w0 := Chg.refl _ _
 have hZ := Nat.le_refl w0.heap.size
 unfold m_slices_Clone_int64_int64 at hm
 refine enterE (N := 8) Try.func31 (by rfl) Try.ntmps31 (by simp) [(0, .slice A0 (l0).length cap0)] (by rfl) (by kernel_rfl) (fun a => ?_)
 refine cW_seq ?_
 refine cW_region ?_
 refine wS_pure 1 [(2, .slice none 0 0)] (by kernel_rfl) ?_
 refine wS_end (by rfl) ?_
 refine eX_then ?_
 refine cW_seq ?_
 refine cW_seq ?_
 refine cW_region ?_
 refine wS_pure 1 [(3, .slice A0 (l0).length cap0)] (by kernel_rfl) ?_
 rcases A0 with _ | ad1
 ·have hl1 := F0.none_nil
  subst hl1
  replace hm : (some ([])) = some _ := Eq.trans (by kernel_rfl) hm
  refine wS_pure 1 [(4, .bool (true))] (by kernel_rfl) ?_
  refine wS_end (by rfl) ?_
  refine eX_then ?_
  refine cW_cond_t (by kernel_rfl) ?_
  refine cW_seq ?_
  refine cW_region ?_
  refine wS_pure 1 [(2, .slice none 0 0)] (by kernel_rfl) ?_
  refine wS_end (by rfl) ?_
  refine eX_then ?_
  refine cW_ret ?_
  refine eX_then_ret ?_
  have hq : (some ([]) : Option ((List (Int)))) = some _ := hm
  replace hq := someE hq
  subst hq
  refine eX_ret (vs := [.slice none 0 0]) [.tmp 2] (by rfl) ⟨by (show lkE _ _ _ = _); kernel_rfl, trivial⟩ ?_
  exact ⟨none, 0, [], rfl, Ow.nil _, lowNil, hB⟩
 ·skip
  refine wS_pure 1 [(4, .bool (false))] (by kernel_rfl) ?_
  refine wS_end (by rfl) ?_
  refine eX_then ?_
  refine cW_cond_f (by kernel_rfl) ?_
  refine cW_skip ?_
  refine eX_then ?_
  refine cW_seq ?_
  refine cW_region ?_
  refine wS_bs0 (α := Int) (enc := encI) (d := 5) (t := 32) (T := 2) (by kernel_rfl) el32 ?_
  intro b1 w1 G1 F1 hc1
  replace F0 := F0.chg hc1 Dj.nil
  replace hB := hB.inS hc1 inNil
  replace G1 := Nat.le_trans hZ G1
  replace G1 := low1 G1
  replace hZ := Nat.le_trans hZ hc1.size
  refine wS_pure 1 [(6, .slice (some ad1) (l0).length cap0)] (by kernel_rfl) ?_
  obtain ⟨_, hk1, hm⟩ := bindE hm
  replace hk1 := apE hk1
  refine wS_appendAny (enc := encI) (l := (([] : List (Int)) : List (Int))) (l2 := (l0 : List (Int))) (d := 7) (t := 32) (T := 2) (A := (some ⟨b1, 0, none⟩)) (A2 := (some ad1)) (cap := 0) (cap2 := cap0) (by kernel_rfl) el32 encI_ok F1 F0 hk1 ?_
  intro w2 fp1 A1 cap1 F2 hc2 hp1
  have G2 := low_ap G1 hZ hp1
  replace F0 := F0.chg hc2 (Dj.of L0 G1)
  replace hB := hB.inS hc2 (inLow G1)
  replace hZ := Nat.le_trans hZ hc2.size
  refine wS_pure 1 [(2, .slice A1 ((([] : List (Int))) ++ l0).length cap1)] (by kernel_rfl) ?_
  refine wS_end (by rfl) ?_
  refine eX_then ?_
  refine cW_ret ?_
  have hq : (some ((([] : List (Int))) ++ l0) : Option ((List (Int)))) = some _ := hm
  replace hq := someE hq
  subst hq
  refine eX_ret (vs := [.slice A1 ((([] : List (Int))) ++ l0).length cap1]) [.tmp 2] (by rfl) ⟨by (show lkE _ _ _ = _); kernel_rfl, trivial⟩ ?_
  exact ⟨A1, cap1, fp1, rfl, F2, G2, hB⟩

set_option maxRecDepth 100000 in
/-- impl.Point] -/
theorem c_slices_Index_impl_Point_impl_Point {w0 : World} {l0 : List (Int × Int)} {A0 : Option Addr} {cap0 : Nat} {fp0 : List Nat} {p1_0 : Int} {p1_1 : Int} {r : (Int)} (hm : m_slices_Index_impl_Point_impl_Point l0 p1_0 p1_1 = some r) (F0 : Sl 2 encII w0 fp0 A0 l0) :
  Calls Try.prog 32 #[.slice A0 (l0).length cap0, .agg #[.int .i64 (p1_0), .int .i64 (p1_1)]] w0 fun e w' => e = .returned (.int .i64 (r)) ∧ Chg [] w0 w' := by
 have L0 := F0.low
 have hB : Chg [] w0 w0 := Chg.refl _ _
 have hZ := Nat.le_refl w0.heap.size
 unfold m_slices_Index_impl_Point_impl_Point at hm
 refine enterE (N := 19) Try.func32 (by rfl) Try.ntmps32 (by simp) [(0, .slice A0 (l0).length cap0), (1, .agg #[.int .i64 (p1_0), .int .i64 (p1_1)])] (by rfl) (by kernel_rfl) (fun a => ?_)
 refine cW_seq ?_
 refine cW_region ?_
 refine wS_box (d := 3) (T := 35) (x := .agg #[.int .i64 (p1_0), .int .i64 (p1_1)]) (by kernel_rfl) ?_
 intro b1 w1 G1 F1 hc1
 replace F1 : Cl w1 b1 35 [.int .i64 (p1_0), .int .i64 (p1_1)] := F1
 replace F0 := F0.chg hc1 Dj.nil
 replace hB := hB.inS hc1 inNil
 replace G1 := Nat.le_trans hZ G1
 replace hZ := Nat.le_trans hZ hc1.size
 refine wS_pure 1 [(4, .int .i64 (0))] (by kernel_rfl) ?_
 refine wS_end (by rfl) ?_
 refine eX_then ?_
 refine cW_seq ?_
 refine cW_seq ?_
 refine cW_region ?_
 refine wS_pure 3 [(8, .int .i64 (0)), (7, .int .i64 (((l0).length : Int))), (6, .slice A0 (l0).length cap0)] (by kernel_rfl) ?_
 refine wS_end (by rfl) ?_
 refine eX_then ?_
 obtain ⟨r1, hr1, hm⟩ := bindE hm
 have hm1 := hm
 refine cW_cut (fun a' w' => Sum.inl (()) = r1 ∧ Fr 19 [] a' ∧ Chg [] w0 w' ∧ w0.heap.size ≤ w'.heap.size) ?_ ?_
 ·refine cW_block ?_
  refine cW_loop _ (fun (s1 : Int) a' w' => ∃ x1 : Int, x1 = s1 ∧ Fr 19 [(0, .slice A0 (l0).length cap0), (3, .pointer (some ⟨b1, 0, none⟩)), (7, .int .i64 (((l0).length : Int))), (8, .int .i64 (x1))] a' ∧ Sl 2 encII w' fp0 A0 l0 ∧ Cl w' b1 35 [.int .i64 (p1_0), .int .i64 (p1_1)] ∧ Chg [] w0 w' ∧ w0.heap.size ≤ w'.heap.size) hr1 (fun hst => ⟨0, rfl, Fr.of hst (by kernel_rfl), F0, F1, hB, hZ⟩) ?_
  rintro _ c1 a' w2 ⟨x1, rfl, hF1, F2, F3, hB, hZ⟩ hx1
  refine Fr.goOn hF1 (by kernel_rfl) ?_
  have hm := hx1
  unfold m_slices_Index_impl_Point_impl_Point_s1 at hm
  refine cW_seq ?_
  refine cW_region ?_
  refine wS_pure 1 [(9, .bool (decide (x1 < (((l0).length : Int)))))] (by kernel_rfl) ?_
  refine wS_end (by rfl) ?_
  refine eX_then ?_
  refine cW_seq ?_
  refine cW_cond (t := decide (x1 < (((l0).length : Int)))) (by kernel_rfl) (fun hb1 => ?_) (fun hb1 => ?_)
  ·have hm := condT hb1 hm
   refine cW_skip ?_
   refine eX_then ?_
   refine cW_seq ?_
   refine cW_block ?_
   refine cW_seq ?_
   refine cW_region ?_
   refine wS_pure 2 [(5, .int .i64 (x1)), (10, .int .i64 (x1))] (by kernel_rfl) ?_
   refine wS_end (by rfl) ?_
   refine eX_then ?_
   refine cW_seq ?_
   refine cW_drawnTail [] 5 (by kernel_rfl) (by kernel_rfl) (fun w3 hc2 => ?_)
   replace F2 := F2.chg hc2 Dj.nil
   replace F3 := F3.chg hc2 notNil
   replace hB := hB.inS hc2 inNil
   replace hZ := Nat.le_trans hZ hc2.size
   have hS := Chg.refl [] w3
   have Z1 := F2
   have Z2 := F3
   refine wH_loadA (i := 0) (d := 11) (T := 35) (ad := ⟨b1, 0, none⟩) (vs := [.int .i64 (p1_0), .int .i64 (p1_1)]) (by kernel_rfl) (qT (qT (qB (qT (qL (qB (qT (qT qZ)))))))) (by kernel_rfl) (by kernel_rfl) vt35 (fun W hW i u hu => box_cells (Z2.chg hW notNil) 0 hu (by rfl)) ?_
   refine wH_take [1, 2] [2, 1, 0] [(13, .int .i64 (x1)), (12, .slice A0 (l0).length cap0)] (by kernel_rfl) (qT (qT (qB (qT (qL (qB (qT (qT qZ)))))))) (by kernel_rfl) ?_
   obtain ⟨x2, hx2, hm⟩ := bindE hm
   refine wH_idx (i := 3) (d := 14) (T := 24) (A := A0) (n := (l0).length) (cap := cap0) (kd := .i64) (m := x1) (by kernel_rfl) (qT (qT (qB (qT (qL (qB (qT (qT qZ)))))))) (by kernel_rfl) (by kernel_rfl) sl24 (F2.is hx2) ?_
   refine wH_loadA (i := 4) (d := 15) (T := 35) (ad := (elA A0 2 (x1) 0)) (vs := [.int .i64 (x2.1), .int .i64 (x2.2)]) (by kernel_rfl) (qT (qT (qB (qT (qL (qB (qT (qT qZ)))))))) (by kernel_rfl) (by kernel_rfl) vt35 (fun W hW i u hu => Sl.cells_at (Z1.chg hW Dj.nil) hx2 0 hu (by rfl)) ?_
   refine wH_done (by kernel_rfl) ?_
   refine eX_tail ?_
   refine wS_eqS (d := 16) (T := 35) (x := p1_0) (y := p1_1) (x' := x2.1) (y' := x2.2) (by kernel_rfl) eq35 ?_
   refine wS_end (by rfl) ?_
   refine eX_then ?_
   refine cW_cond (t := p1_0 == x2.1 && p1_1 == x2.2) (by kernel_rfl) (fun hb2 => ?_) (fun hb2 => ?_)
   ·have hm := condT hb2 hm
    refine cW_seq ?_
    refine cW_region ?_
    refine wS_pure 2 [(4, .int .i64 (x1)), (17, .int .i64 (x1))] (by kernel_rfl) ?_
    refine wS_end (by rfl) ?_
    refine eX_then ?_
    refine cW_ret ?_
    refine eX_block_ret ?_
    refine eX_then_ret ?_
    have hq : (some (Ctl.out (Sum.inr x1)) : Option (Ctl (Int) (Sum (Unit) ((Int))))) = some _ := hm
    replace hq := someE hq
    subst hq
    refine eX_outR hx1 (fun hr => ?_)
    subst hr
    refine eX_block_ret ?_
    refine eX_then_ret ?_
    refine eX_then_ret ?_
    have hq : (some x1 : Option ((Int))) = some _ := hm1
    replace hq := someE hq
    subst hq
    refine eX_ret (vs := [.int .i64 (x1)]) [.tmp 4] (by rfl) ⟨by (show lkE _ _ _ = _); kernel_rfl, trivial⟩ ?_
    exact ⟨rfl, hB⟩
   ·have hm := condF hb2 hm
    refine cW_skip ?_
    refine eX_block ?_
    refine eX_then ?_
    refine cW_region ?_
    refine wS_pure 2 [(8, .int .i64 (wr (x1 + 1))), (18, .int .i64 (wr (x1 + 1)))] (by kernel_rfl) ?_
    refine wS_end (by rfl) ?_
    have hq : (some (Ctl.next (wr (x1 + 1))) : Option (Ctl (Int) (Sum (Unit) ((Int))))) = some _ := hm
    replace hq := someE hq
    subst hq
    exact eX_next hx1 (fun hst => ⟨wr (x1 + 1), rfl, Fr.of hst (by kernel_rfl), F2, F3, hB, hZ⟩)
  ·have hm := condF hb1 hm
   refine cW_exit ?_
   refine eX_then_exit ?_
   have hq : (some (Ctl.out (Sum.inl (()))) : Option (Ctl (Int) (Sum (Unit) ((Int))))) = some _ := hm
   replace hq := someE hq
   subst hq
   refine eX_outX hx1 (fun hr2 => ?_)
   replace hr2 := hr2.symm
   subst hr2
   refine eX_block_hit ?_
   exact eX_J (fun hst => ⟨rfl, Fr.of hst (by kernel_rfl), hB, hZ⟩)
 ·rintro a' w4 ⟨hJ, hF2, hB, hZ⟩
  subst hJ
  refine Fr.goX hF2 (by kernel_rfl) ?_
  refine eX_then ?_
  refine cW_seq ?_
  refine cW_region ?_
  refine wS_pure 1 [(4, .int .i64 ((-1)))] (by kernel_rfl) ?_
  refine wS_end (by rfl) ?_
  refine eX_then ?_
  refine cW_ret ?_
  have hq : (some ((-1)) : Option ((Int))) = some _ := hm
  replace hq := someE hq
  subst hq
  refine eX_ret (vs := [.int .i64 ((-1))]) [.tmp 4] (by rfl) ⟨by (show lkE _ _ _ = _); kernel_rfl, trivial⟩ ?_
  exact ⟨rfl, hB⟩

end Go.Proofs.Ytooogkcoedampaa
