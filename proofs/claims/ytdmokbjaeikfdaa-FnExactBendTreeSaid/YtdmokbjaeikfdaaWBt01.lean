/- Printed walks: laws.szPointS, spec.l01Index, spec.l00In, spec.l01Point, spec.l05Is, spec.l05Few, spec.l00Max, spec.l01Abs, spec.l01Far, spec.l05Tree, spec.l03Less, spec.l05Pairs, spec.l05Pairs, spec.l01Sign, spec.l05Steps, spec.l05Used, spec.BendTree, laws.toPoint, laws.toPointS, impl.in, impl.IsPoint, impl.noPoint, slices.Clone[[]impl.Point,impl.Point]. -/
import Derived.Test.YtdmokbjaeikfdaaProg
import Derived.Test.YtdmokbjaeikfdaaMod
import Derived.Test.YtdmokbjaeikfdaaEqs
import Derived.Test.YtdmokbjaeikfdaaSrtC
import Derived.Test.YtdmokbjaeikfdaaSrtR
import Derived.Test.YtdmokbjaeikfdaaIds
set_option linter.unusedSimpArgs false
set_option linter.unusedVariables false
namespace Go.Proofs.Ytdmokbjaeikfdaa
open Go.RowKit
attribute [local irreducible] wS cW eX wH

theorem ent18 : Ent Try.prog 18 := fun _ => by kernel_rfl
theorem ent19 : Ent Try.prog 19 := fun _ => by kernel_rfl
theorem ent20 : Ent Try.prog 20 := fun _ => by kernel_rfl
theorem ent21 : Ent Try.prog 21 := fun _ => by kernel_rfl
theorem ent22 : Ent Try.prog 22 := fun _ => by kernel_rfl
theorem ent32 : Ent Try.prog 32 := fun _ => by kernel_rfl
theorem ent34 : Ent Try.prog 34 := fun _ => by kernel_rfl
theorem ent37 : Ent Try.prog 37 := fun _ => by kernel_rfl
theorem ent38 : Ent Try.prog 38 := fun _ => by kernel_rfl
theorem ent39 : Ent Try.prog 39 := fun _ => by kernel_rfl
theorem ent49 : Ent Try.prog 49 := fun _ => by kernel_rfl
theorem ent50 : Ent Try.prog 50 := fun _ => by kernel_rfl
theorem ent51 : Ent Try.prog 51 := fun _ => by kernel_rfl
theorem ent55 : Ent Try.prog 55 := fun _ => by kernel_rfl
theorem ent56 : Ent Try.prog 56 := fun _ => by kernel_rfl
theorem ent69 : Ent Try.prog 69 := fun _ => by kernel_rfl
theorem ent71 : Ent Try.prog 71 := fun _ => by kernel_rfl
theorem vt4 : VarTy Try.prog 4 1 false := ⟨by kernel_rfl, by kernel_rfl⟩
theorem vt34 : VarTy Try.prog 34 2 true := ⟨by kernel_rfl, by kernel_rfl⟩
theorem vt52 : VarTy Try.prog 52 2 true := ⟨by kernel_rfl, by kernel_rfl⟩
theorem vt66 : VarTy Try.prog 66 1 false := ⟨by kernel_rfl, by kernel_rfl⟩
theorem sl22 : SlTy Try.prog 22 52 2 := ⟨Try.underlying22, by kernel_rfl⟩
theorem sl26 : SlTy Try.prog 26 34 2 := ⟨Try.underlying26, by kernel_rfl⟩
theorem sl40 : SlTy Try.prog 40 66 1 := ⟨Try.underlying40, by kernel_rfl⟩
theorem sl65 : SlTy Try.prog 65 4 1 := ⟨Try.underlying65, by kernel_rfl⟩
theorem el26 : ElTy Try.prog 26 34 2 (.agg #[.int .i64 (0), .int .i64 (0)]) := ElTy.mk' Try.underlying26 (by kernel_rfl) (by rfl)
theorem el30 : ElTy Try.prog 30 5 1 (.int .u8 (0)) := ElTy.mk' Try.underlying30 (by kernel_rfl) (by rfl)
theorem el40 : ElTy Try.prog 40 66 1 (.slice none 0 0) := ElTy.mk' Try.underlying40 (by kernel_rfl) (by rfl)
theorem el65 : ElTy Try.prog 65 4 1 (.bool (false)) := ElTy.mk' Try.underlying65 (by kernel_rfl) (by rfl)
theorem el66 : ElTy Try.prog 66 2 1 (.int .i64 (0)) := ElTy.mk' Try.underlying66 (by kernel_rfl) (by rfl)
theorem eq34 : ∃ f0 f1, EqTy Try.prog 34 f0 f1 := ⟨_, _, Try.underlying34, by kernel_rfl, by kernel_rfl, by kernel_rfl, fun w => pureRun_run (by kernel_rfl) w, fun w => pureRun_run (by kernel_rfl) w, rfl, rfl, Try.underlying2, Try.underlying2, by kernel_rfl⟩
theorem st30_9 : StrTy Try.prog 30 9 := ⟨⟨_, Try.underlying30, Try.underlying5⟩, Try.underlying9⟩
theorem sz2 : pureRun Try.prog (sizeOf 2) = some 1 := by kernel_rfl
theorem sz4 : pureRun Try.prog (sizeOf 4) = some 1 := by kernel_rfl
theorem sz34 : pureRun Try.prog (sizeOf 34) = some 2 := by kernel_rfl

set_option maxRecDepth 100000 in
/-- laws.szPointS -/
theorem c_laws_szPointS {w0 : World} {l0 : List (Int × Int)} {A0 : Option Addr} {cap0 : Nat} {fp0 : List Nat} {p1 : Int} {r : (Int)} (hm : m_laws_szPointS l0 p1 = some r) (F0 : Sl 2 encII w0 fp0 A0 l0) :
  Calls Try.prog 5 #[.slice A0 (l0).length cap0, .int .i64 (p1)] w0 fun e w' => e = .returned (.int .i64 (r)) ∧ Chg [] w0 w' := by
 have L0 := F0.low
 have hB : Chg [] w0 w0 := Chg.refl _ _
 have hZ := Nat.le_refl w0.heap.size
 unfold m_laws_szPointS at hm
 refine enterE (N := 12) Try.func5 (by rfl) Try.ntmps5 (by simp) [(0, .slice A0 (l0).length cap0), (1, .int .i64 (p1))] (by rfl) (by kernel_rfl) (fun a => ?_)
 refine cW_seq ?_
 refine cW_region ?_
 refine wS_pure 1 [(4, .int .i64 (0))] (by kernel_rfl) ?_
 refine wS_end (by rfl) ?_
 refine eX_then ?_
 refine cW_seq ?_
 refine cW_region ?_
 refine wS_pure 5 [(1, .int .i64 (wr (p1 - (((l0).length : Int))))), (8, .int .i64 (wr (p1 - (((l0).length : Int))))), (7, .int .i64 (((l0).length : Int))), (6, .slice A0 (l0).length cap0), (5, .int .i64 (p1))] (by kernel_rfl) ?_
 refine wS_end (by rfl) ?_
 refine eX_then ?_
 refine cW_seq ?_
 refine cW_seq ?_
 refine cW_region ?_
 refine wS_pure 2 [(10, .bool (decide ((wr (p1 - (((l0).length : Int)))) < 0))), (9, .int .i64 (wr (p1 - (((l0).length : Int)))))] (by kernel_rfl) ?_
 refine wS_end (by rfl) ?_
 refine eX_then ?_
 refine cW_cond (t := decide ((wr (p1 - (((l0).length : Int)))) < 0)) (by kernel_rfl) (fun hb1 => ?_) (fun hb1 => ?_)
 ·have hm := condT hb1 hm
  refine cW_seq ?_
  refine cW_region ?_
  refine wS_pure 1 [(4, .int .i64 ((-1)))] (by kernel_rfl) ?_
  refine wS_end (by rfl) ?_
  refine eX_then ?_
  refine cW_ret ?_
  refine eX_then_ret ?_
  have hq : (some ((-1)) : Option ((Int))) = some _ := hm
  replace hq := someE hq
  subst hq
  refine eX_ret (vs := [.int .i64 ((-1))]) [.tmp 4] (by rfl) ⟨by (show lkE _ _ _ = _); kernel_rfl, trivial⟩ ?_
  exact ⟨rfl, hB⟩
 ·have hm := condF hb1 hm
  refine cW_skip ?_
  refine eX_then ?_
  refine cW_seq ?_
  refine cW_region ?_
  refine wS_pure 2 [(4, .int .i64 (wr (p1 - (((l0).length : Int))))), (11, .int .i64 (wr (p1 - (((l0).length : Int)))))] (by kernel_rfl) ?_
  refine wS_end (by rfl) ?_
  refine eX_then ?_
  refine cW_ret ?_
  have hq : (some (wr (p1 - (((l0).length : Int)))) : Option ((Int))) = some _ := hm
  replace hq := someE hq
  subst hq
  refine eX_ret (vs := [.int .i64 (wr (p1 - (((l0).length : Int))))]) [.tmp 4] (by rfl) ⟨by (show lkE _ _ _ = _); kernel_rfl, trivial⟩ ?_
  exact ⟨rfl, hB⟩

set_option maxRecDepth 100000 in
/-- spec.l01Index -/
theorem c_spec_l01Index {w0 : World} {l0 : List (Int × Int)} {A0 : Option Addr} {cap0 : Nat} {fp0 : List Nat} {p1_0 : Int} {p1_1 : Int} {r : (Int)} (hm : m_spec_l01Index l0 p1_0 p1_1 = some r) (F0 : Sl 2 encII w0 fp0 A0 l0) :
  Calls Try.prog 49 #[.slice A0 (l0).length cap0, .agg #[.int .i64 (p1_0), .int .i64 (p1_1)]] w0 fun e w' => e = .returned (.int .i64 (r)) ∧ Chg [] w0 w' := by
 have L0 := F0.low
 have hB : Chg [] w0 w0 := Chg.refl _ _
 have hZ := Nat.le_refl w0.heap.size
 unfold m_spec_l01Index at hm
 refine enterE (N := 19) Try.func49 (by rfl) Try.ntmps49 (by simp) [(0, .slice A0 (l0).length cap0), (1, .agg #[.int .i64 (p1_0), .int .i64 (p1_1)])] (by rfl) (by kernel_rfl) (fun a => ?_)
 refine cW_seq ?_
 refine cW_region ?_
 refine wS_box (d := 3) (T := 34) (x := .agg #[.int .i64 (p1_0), .int .i64 (p1_1)]) (by kernel_rfl) ?_
 intro b1 w1 G1 F1 hc1
 replace F1 : Cl w1 b1 34 [.int .i64 (p1_0), .int .i64 (p1_1)] := F1
 replace F0 := F0.chg hc1 Dj.nil
 replace hB := hB.inS hc1 inNil
 replace G1 := Nat.le_trans hZ G1
 replace hZ := Nat.le_trans hZ hc1.size
 refine wS_pure 1 [(4, .int .i64 (0))] (by kernel_rfl) ?_
 refine wS_end (by rfl) ?_
 refine eX_then ?_
 refine cW_seq ?_
 refine cW_seq ?_
 refine cW_region ?_
 refine wS_pure 1 [(5, .int .i64 (0))] (by kernel_rfl) ?_
 refine wS_end (by rfl) ?_
 refine eX_then ?_
 obtain ⟨r1, hr1, hm⟩ := bindE hm
 have hm1 := hm
 refine cW_cut (fun a' w' => Sum.inl (()) = r1 ∧ Fr 19 [] a' ∧ Chg [] w0 w' ∧ w0.heap.size ≤ w'.heap.size) ?_ ?_
 ·refine cW_block ?_
  refine cW_loop _ (fun (s1 : Int) a' w' => ∃ x1 : Int, x1 = s1 ∧ Fr 19 [(0, .slice A0 (l0).length cap0), (3, .pointer (some ⟨b1, 0, none⟩)), (5, .int .i64 (x1))] a' ∧ Sl 2 encII w' fp0 A0 l0 ∧ Cl w' b1 34 [.int .i64 (p1_0), .int .i64 (p1_1)] ∧ Chg [] w0 w' ∧ w0.heap.size ≤ w'.heap.size) hr1 (fun hst => ⟨0, rfl, Fr.of hst (by kernel_rfl), F0, F1, hB, hZ⟩) ?_
  rintro _ c1 a' w2 ⟨x1, rfl, hF1, F2, F3, hB, hZ⟩ hx1
  refine Fr.goOn hF1 (by kernel_rfl) ?_
  have hm := hx1
  unfold m_spec_l01Index_s1 at hm
  refine cW_seq ?_
  refine cW_seq ?_
  refine cW_region ?_
  refine wS_pure 4 [(9, .bool (decide (x1 < (((l0).length : Int))))), (8, .int .i64 (((l0).length : Int))), (7, .slice A0 (l0).length cap0), (6, .int .i64 (x1))] (by kernel_rfl) ?_
  refine wS_end (by rfl) ?_
  refine eX_then ?_
  refine cW_cond (t := decide (x1 < (((l0).length : Int)))) (by kernel_rfl) (fun hb1 => ?_) (fun hb1 => ?_)
  ·have hm := condT hb1 hm
   refine cW_skip ?_
   refine eX_then ?_
   refine cW_seq ?_
   refine cW_block ?_
   refine cW_seq ?_
   refine cW_drawnTail [] 5 (by kernel_rfl) (by kernel_rfl) (fun w3 hc2 => ?_)
   replace F2 := F2.chg hc2 Dj.nil
   replace F3 := F3.chg hc2 notNil
   replace hB := hB.inS hc2 inNil
   replace hZ := Nat.le_trans hZ hc2.size
   have hS := Chg.refl [] w3
   have Z1 := F2
   have Z2 := F3
   refine wH_take [0, 1] [1, 0] [(13, .int .i64 (x1)), (12, .slice A0 (l0).length cap0)] (by kernel_rfl) (qT (qT (qB (qT (qL (qB (qT (qT qZ)))))))) (by kernel_rfl) ?_
   obtain ⟨x2, hx2, hm⟩ := bindE hm
   refine wH_idx (i := 2) (d := 14) (T := 26) (A := A0) (n := (l0).length) (cap := cap0) (kd := .i64) (m := x1) (by kernel_rfl) (qT (qT (qB (qT (qL (qB (qT (qT qZ)))))))) (by kernel_rfl) (by kernel_rfl) sl26 (F2.is hx2) ?_
   refine wH_loadA (i := 3) (d := 15) (T := 34) (ad := (elA A0 2 (x1) 0)) (vs := [.int .i64 (x2.1), .int .i64 (x2.2)]) (by kernel_rfl) (qT (qT (qB (qT (qL (qB (qT (qT qZ)))))))) (by kernel_rfl) (by kernel_rfl) vt34 (fun W hW i u hu => Sl.cells_at (Z1.chg hW Dj.nil) hx2 0 hu (by rfl)) ?_
   refine wH_loadA (i := 4) (d := 16) (T := 34) (ad := ⟨b1, 0, none⟩) (vs := [.int .i64 (p1_0), .int .i64 (p1_1)]) (by kernel_rfl) (qT (qT (qB (qT (qL (qB (qT (qT qZ)))))))) (by kernel_rfl) (by kernel_rfl) vt34 (fun W hW i u hu => box_cells (Z2.chg hW notNil) 0 hu (by rfl)) ?_
   refine wH_done (by kernel_rfl) ?_
   refine eX_tail ?_
   refine wS_eqS (d := 17) (T := 34) (x := x2.1) (y := x2.2) (x' := p1_0) (y' := p1_1) (by kernel_rfl) eq34 ?_
   refine wS_end (by rfl) ?_
   refine eX_then ?_
   refine cW_cond (t := x2.1 == p1_0 && x2.2 == p1_1) (by kernel_rfl) (fun hb2 => ?_) (fun hb2 => ?_)
   ·have hm := condT hb2 hm
    refine cW_seq ?_
    refine cW_region ?_
    refine wS_pure 2 [(4, .int .i64 (x1)), (18, .int .i64 (x1))] (by kernel_rfl) ?_
    refine wS_end (by rfl) ?_
    refine eX_then ?_
    refine cW_ret ?_
    refine eX_block_ret ?_
    refine eX_then_ret ?_
    have hq : (some (Ctl.out (Sum.inr x1)) : Option (Ctl (Int) (Sum (Unit) ((Int))))) = some _ := hm
    replace hq := someE hq
    subst hq
    refine eX_outR hx1 (fun hr => ?_)
    subst hr
    refine eX_block_ret ?_
    refine eX_then_ret ?_
    refine eX_then_ret ?_
    have hq : (some x1 : Option ((Int))) = some _ := hm1
    replace hq := someE hq
    subst hq
    refine eX_ret (vs := [.int .i64 (x1)]) [.tmp 4] (by rfl) ⟨by (show lkE _ _ _ = _); kernel_rfl, trivial⟩ ?_
    exact ⟨rfl, hB⟩
   ·have hm := condF hb2 hm
    refine cW_skip ?_
    refine eX_block ?_
    refine eX_then ?_
    refine cW_region ?_
    refine wS_pure 3 [(5, .int .i64 (wr (x1 + 1))), (11, .int .i64 (wr (x1 + 1))), (10, .int .i64 (x1))] (by kernel_rfl) ?_
    refine wS_end (by rfl) ?_
    have hq : (some (Ctl.next (wr (x1 + 1))) : Option (Ctl (Int) (Sum (Unit) ((Int))))) = some _ := hm
    replace hq := someE hq
    subst hq
    exact eX_next hx1 (fun hst => ⟨wr (x1 + 1), rfl, Fr.of hst (by kernel_rfl), F2, F3, hB, hZ⟩)
  ·have hm := condF hb1 hm
   refine cW_exit ?_
   refine eX_then_exit ?_
   have hq : (some (Ctl.out (Sum.inl (()))) : Option (Ctl (Int) (Sum (Unit) ((Int))))) = some _ := hm
   replace hq := someE hq
   subst hq
   refine eX_outX hx1 (fun hr2 => ?_)
   replace hr2 := hr2.symm
   subst hr2
   refine eX_block_hit ?_
   exact eX_J (fun hst => ⟨rfl, Fr.of hst (by kernel_rfl), hB, hZ⟩)
 ·rintro a' w4 ⟨hJ, hF2, hB, hZ⟩
  subst hJ
  refine Fr.goX hF2 (by kernel_rfl) ?_
  refine eX_then ?_
  refine cW_seq ?_
  refine cW_region ?_
  refine wS_pure 1 [(4, .int .i64 ((-1)))] (by kernel_rfl) ?_
  refine wS_end (by rfl) ?_
  refine eX_then ?_
  refine cW_ret ?_
  have hq : (some ((-1)) : Option ((Int))) = some _ := hm
  replace hq := someE hq
  subst hq
  refine eX_ret (vs := [.int .i64 ((-1))]) [.tmp 4] (by rfl) ⟨by (show lkE _ _ _ = _); kernel_rfl, trivial⟩ ?_
  exact ⟨rfl, hB⟩

set_option maxRecDepth 100000 in
/-- spec.l00In -/
theorem c_spec_l00In {w0 : World} {p0 : Int} {p1 : Int} {p2 : Int} {r : (Bool)} (hm : m_spec_l00In p0 p1 p2 = some r)  :
  Calls Try.prog 69 #[.int .i64 (p0), .int .i64 (p1), .int .i64 (p2)] w0 fun e w' => e = .returned (.bool (r)) ∧ Chg [] w0 w' := by
 have hB : Chg [] w0 w0 := Chg.refl _ _
 have hZ := Nat.le_refl w0.heap.size
 unfold m_spec_l00In at hm
 refine enterE (N := 15) Try.func69 (by rfl) Try.ntmps69 (by simp) [(0, .int .i64 (p0)), (1, .int .i64 (p1)), (2, .int .i64 (p2))] (by rfl) (by kernel_rfl) (fun a => ?_)
 refine cW_seq ?_
 refine cW_region ?_
 refine wS_pure 1 [(6, .bool (false))] (by kernel_rfl) ?_
 refine wS_end (by rfl) ?_
 refine eX_then ?_
 refine cW_seq ?_
 refine cW_region ?_
 refine wS_pure 4 [(10, .bool (decide (p0 ≥ p1))), (9, .bool (decide (p0 ≥ p1))), (8, .int .i64 (p1)), (7, .int .i64 (p0))] (by kernel_rfl) ?_
 refine wS_bool (decide (p0 ≥ p1)) (fun hb1 => ?_) (fun hb1 => ?_)
 ·have hm := condT hb1 hm
  rewrite [hb1]
  refine wS_pure 5 [(6, .bool (decide (p0 ≤ p2))), (14, .bool (decide (p0 ≤ p2))), (13, .bool (decide (p0 ≤ p2))), (12, .int .i64 (p2)), (11, .int .i64 (p0))] (by kernel_rfl) ?_
  refine wS_end (by rfl) ?_
  refine eX_then ?_
  refine cW_ret ?_
  have hq : (some (decide (p0 ≤ p2)) : Option ((Bool))) = some _ := hm
  replace hq := someE hq
  subst hq
  refine eX_ret (vs := [.bool (decide (p0 ≤ p2))]) [.tmp 6] (by rfl) ⟨by (show lkE _ _ _ = _); kernel_rfl, trivial⟩ ?_
  exact ⟨rfl, hB⟩
 ·have hm := condF hb1 hm
  rewrite [hb1]
  refine wS_pure 5 [(6, .bool (false)), (14, .bool (false)), (13, undef), (12, undef), (11, undef)] (by kernel_rfl) ?_
  refine wS_end (by rfl) ?_
  refine eX_then ?_
  refine cW_ret ?_
  have hq : (some false : Option ((Bool))) = some _ := hm
  replace hq := someE hq
  subst hq
  refine eX_ret (vs := [.bool (false)]) [.tmp 6] (by rfl) ⟨by (show lkE _ _ _ = _); kernel_rfl, trivial⟩ ?_
  exact ⟨rfl, hB⟩

set_option maxRecDepth 100000 in
/-- spec.l01Point -/
theorem c_spec_l01Point {w0 : World} {p0_0 : Int} {p0_1 : Int} {r : (Bool)} (hm : m_spec_l01Point p0_0 p0_1 = some r)  :
  Calls Try.prog 51 #[.agg #[.int .i64 (p0_0), .int .i64 (p0_1)]] w0 fun e w' => e = .returned (.bool (r)) ∧ Chg [] w0 w' := by
 have hB : Chg [] w0 w0 := Chg.refl _ _
 have hZ := Nat.le_refl w0.heap.size
 unfold m_spec_l01Point at hm
 refine enterE (N := 11) Try.func51 (by rfl) Try.ntmps51 (by simp) [(0, .agg #[.int .i64 (p0_0), .int .i64 (p0_1)])] (by rfl) (by kernel_rfl) (fun a => ?_)
 refine cW_seq ?_
 refine cW_region ?_
 refine wS_box (d := 1) (T := 34) (x := .agg #[.int .i64 (p0_0), .int .i64 (p0_1)]) (by kernel_rfl) ?_
 intro b1 w1 G1 F1 hc1
 replace F1 : Cl w1 b1 34 [.int .i64 (p0_0), .int .i64 (p0_1)] := F1
 replace hB := hB.inS hc1 inNil
 replace G1 := Nat.le_trans hZ G1
 replace hZ := Nat.le_trans hZ hc1.size
 refine wS_pure 1 [(2, .bool (false))] (by kernel_rfl) ?_
 refine wS_end (by rfl) ?_
 refine eX_then ?_
 refine cW_seq ?_
 refine cW_region ?_
 refine wS_pure 1 [(3, .pointer (some ⟨b1, 0, none⟩))] (by kernel_rfl) ?_
 refine wS_load1 (d := 4) (T := 2) (ad := ⟨b1, 0, none⟩) (v := .int .i64 (p0_0)) (by kernel_rfl) vt2 ((F1).cell 0) ?_
 obtain ⟨y1, hy1, hm⟩ := bindE hm
 refine wS_calls (d := 5) (f := 69) (vs := [.int .i64 (p0_0), .int .i64 (0), .int .i64 (99)]) (by kernel_rfl) ent69 (c_spec_l00In hy1) ?_
 rintro _ w2 ⟨rfl, hc2⟩
 replace F1 := F1.chg hc2 notNil
 replace hB := hB.inS hc2 inNil
 replace hZ := Nat.le_trans hZ hc2.size
 refine ⟨.bool (y1), rfl, ?_⟩
 refine wS_pure 1 [(6, .bool (y1))] (by kernel_rfl) ?_
 refine wS_bool y1 (fun hb1 => ?_) (fun hb1 => ?_)
 ·have hm := condT hb1 hm
  rewrite [hb1]
  refine wS_pure 1 [(7, .pointer (some ⟨b1, 1, none⟩))] (by kernel_rfl) ?_
  refine wS_load1 (d := 8) (T := 2) (ad := ⟨b1, 1, none⟩) (v := .int .i64 (p0_1)) (by kernel_rfl) vt2 ((F1).cell 1) ?_
  obtain ⟨y2, hy2, hm⟩ := bindE hm
  refine wS_calls (d := 9) (f := 69) (vs := [.int .i64 (p0_1), .int .i64 (0), .int .i64 (99)]) (by kernel_rfl) ent69 (c_spec_l00In hy2) ?_
  rintro _ w3 ⟨rfl, hc3⟩
  replace F1 := F1.chg hc3 notNil
  replace hB := hB.inS hc3 inNil
  replace hZ := Nat.le_trans hZ hc3.size
  refine ⟨.bool (y2), rfl, ?_⟩
  refine wS_pure 2 [(2, .bool (y2)), (10, .bool (y2))] (by kernel_rfl) ?_
  refine wS_end (by rfl) ?_
  refine eX_then ?_
  refine cW_ret ?_
  have hq : (some y2 : Option ((Bool))) = some _ := hm
  replace hq := someE hq
  subst hq
  refine eX_ret (vs := [.bool (y2)]) [.tmp 2] (by rfl) ⟨by (show lkE _ _ _ = _); kernel_rfl, trivial⟩ ?_
  exact ⟨rfl, hB⟩
 ·have hm := condF hb1 hm
  rewrite [hb1]
  refine wS_pure 5 [(2, .bool (false)), (10, .bool (false)), (9, undef), (8, undef), (7, undef)] (by kernel_rfl) ?_
  refine wS_end (by rfl) ?_
  refine eX_then ?_
  refine cW_ret ?_
  have hq : (some false : Option ((Bool))) = some _ := hm
  replace hq := someE hq
  subst hq
  refine eX_ret (vs := [.bool (false)]) [.tmp 2] (by rfl) ⟨by (show lkE _ _ _ = _); kernel_rfl, trivial⟩ ?_
  exact ⟨rfl, hB⟩

set_option maxRecDepth 100000 in
/-- spec.l05Is -/
theorem c_spec_l05Is {w0 : World} {l0 : List (Int × Int)} {A0 : Option Addr} {cap0 : Nat} {fp0 : List Nat} {r : (Bool)} (hm : m_spec_l05Is l0 = some r) (F0 : Sl 2 encII w0 fp0 A0 l0) (K0 : (l0).length ≤ cap0) :
  Calls Try.prog 34 #[.slice A0 (l0).length cap0] w0 fun e w' => e = .returned (.bool (r)) ∧ Chg [] w0 w' := by
 have L0 := F0.low
 have hB : Chg [] w0 w0 := Chg.refl _ _
 have hZ := Nat.le_refl w0.heap.size
 unfold m_spec_l05Is at hm
 refine enterE (N := 35) Try.func34 (by rfl) Try.ntmps34 (by simp) [(0, .slice A0 (l0).length cap0)] (by rfl) (by kernel_rfl) (fun a => ?_)
 refine cW_seq ?_
 refine cW_region ?_
 refine wS_pure 1 [(2, .bool (false))] (by kernel_rfl) ?_
 refine wS_end (by rfl) ?_
 refine eX_then ?_
 refine cW_seq ?_
 refine cW_seq ?_
 refine cW_region ?_
 refine wS_pure 4 [(7, .bool (decide ((((l0).length : Int)) < 1))), (6, .bool (decide ((((l0).length : Int)) < 1))), (5, .int .i64 (((l0).length : Int))), (4, .slice A0 (l0).length cap0)] (by kernel_rfl) ?_
 refine wS_bool (decide ((((l0).length : Int)) < 1)) (fun hb1 => ?_) (fun hb1 => ?_)
 ·have hm := condT hb1 hm
  rewrite [hb1]
  refine wS_pure 4 [(11, .bool (true)), (10, undef), (9, undef), (8, undef)] (by kernel_rfl) ?_
  refine wS_end (by rfl) ?_
  refine eX_then ?_
  refine cW_cond_t (by kernel_rfl) ?_
  refine cW_seq ?_
  refine cW_region ?_
  refine wS_pure 1 [(2, .bool (false))] (by kernel_rfl) ?_
  refine wS_end (by rfl) ?_
  refine eX_then ?_
  refine cW_ret ?_
  refine eX_then_ret ?_
  have hq : (some false : Option ((Bool))) = some _ := hm
  replace hq := someE hq
  subst hq
  refine eX_ret (vs := [.bool (false)]) [.tmp 2] (by rfl) ⟨by (show lkE _ _ _ = _); kernel_rfl, trivial⟩ ?_
  exact ⟨rfl, hB⟩
 ·have hm := condF hb1 hm
  rewrite [hb1]
  refine wS_pure 4 [(11, .bool (decide ((((l0).length : Int)) > 20))), (10, .bool (decide ((((l0).length : Int)) > 20))), (9, .int .i64 (((l0).length : Int))), (8, .slice A0 (l0).length cap0)] (by kernel_rfl) ?_
  refine wS_end (by rfl) ?_
  refine eX_then ?_
  refine cW_cond (t := decide ((((l0).length : Int)) > 20)) (by kernel_rfl) (fun hb2 => ?_) (fun hb2 => ?_)
  ·have hm := condT hb2 hm
   refine cW_seq ?_
   refine cW_region ?_
   refine wS_pure 1 [(2, .bool (false))] (by kernel_rfl) ?_
   refine wS_end (by rfl) ?_
   refine eX_then ?_
   refine cW_ret ?_
   refine eX_then_ret ?_
   have hq : (some false : Option ((Bool))) = some _ := hm
   replace hq := someE hq
   subst hq
   refine eX_ret (vs := [.bool (false)]) [.tmp 2] (by rfl) ⟨by (show lkE _ _ _ = _); kernel_rfl, trivial⟩ ?_
   exact ⟨rfl, hB⟩
  ·have hm := condF hb2 hm
   refine cW_skip ?_
   refine eX_then ?_
   refine cW_seq ?_
   refine cW_seq ?_
   refine cW_region ?_
   refine wS_pure 1 [(3, .int .i64 (0))] (by kernel_rfl) ?_
   refine wS_end (by rfl) ?_
   refine eX_then ?_
   obtain ⟨r1, hr1, hm⟩ := bindE hm
   have hm1 := hm
   refine cW_cut (fun a' w' => Sum.inl (()) = r1 ∧ Fr 35 [] a' ∧ Chg [] w0 w' ∧ w0.heap.size ≤ w'.heap.size) ?_ ?_
   ·refine cW_block ?_
    refine cW_loop _ (fun (s1 : Int) a' w' => ∃ x1 : Int, x1 = s1 ∧ Fr 35 [(0, .slice A0 (l0).length cap0), (3, .int .i64 (x1))] a' ∧ Sl 2 encII w' fp0 A0 l0 ∧ Chg [] w0 w' ∧ w0.heap.size ≤ w'.heap.size) hr1 (fun hst => ⟨0, rfl, Fr.of hst (by kernel_rfl), F0, hB, hZ⟩) ?_
    rintro _ c1 a' w1 ⟨x1, rfl, hF1, F1, hB, hZ⟩ hx1
    refine Fr.goOn hF1 (by kernel_rfl) ?_
    have hm := hx1
    unfold m_spec_l05Is_s1 at hm
    refine cW_seq ?_
    refine cW_seq ?_
    refine cW_region ?_
    refine wS_pure 4 [(15, .bool (decide (x1 < (((l0).length : Int))))), (14, .int .i64 (((l0).length : Int))), (13, .slice A0 (l0).length cap0), (12, .int .i64 (x1))] (by kernel_rfl) ?_
    refine wS_end (by rfl) ?_
    refine eX_then ?_
    refine cW_cond (t := decide (x1 < (((l0).length : Int)))) (by kernel_rfl) (fun hb3 => ?_) (fun hb3 => ?_)
    ·have hm := condT hb3 hm
     refine cW_skip ?_
     refine eX_then ?_
     refine cW_seq ?_
     refine cW_block ?_
     refine cW_seq ?_
     refine cW_drawnTail [] 14 (by kernel_rfl) (by kernel_rfl) (fun w2 hc1 => ?_)
     replace F1 := F1.chg hc1 Dj.nil
     replace hB := hB.inS hc1 inNil
     replace hZ := Nat.le_trans hZ hc1.size
     have hS := Chg.refl [] w2
     have Z1 := F1
     refine wH_take [0, 1] [1, 0] [(19, .int .i64 (x1)), (18, .slice A0 (l0).length cap0)] (by kernel_rfl) (qT (qT (qB (qT (qL (qB (qT (qT qZ)))))))) (by kernel_rfl) ?_
     obtain ⟨x2, hx2, hm⟩ := bindE hm
     refine wH_idx (i := 2) (d := 20) (T := 26) (A := A0) (n := (l0).length) (cap := cap0) (kd := .i64) (m := x1) (by kernel_rfl) (qT (qT (qB (qT (qL (qB (qT (qT qZ)))))))) (by kernel_rfl) (by kernel_rfl) sl26 (F1.is hx2) ?_
     refine wH_loadA (i := 3) (d := 21) (T := 34) (ad := (elA A0 2 (x1) 0)) (vs := [.int .i64 (x2.1), .int .i64 (x2.2)]) (by kernel_rfl) (qT (qT (qB (qT (qL (qB (qT (qT qZ)))))))) (by kernel_rfl) (by kernel_rfl) vt34 (fun W hW i u hu => Sl.cells_at (Z1.chg hW Dj.nil) hx2 0 hu (by rfl)) ?_
     refine wH_all [4] (by rfl) (by kernel_rfl) (by simp) ⟨⟨by kernel_rfl, ?_⟩, trivial⟩
     obtain ⟨y1, hy1, hm⟩ := bindE hm
     refine wS_calls (d := 22) (f := 51) (vs := [.agg #[.int .i64 (x2.1), .int .i64 (x2.2)]]) (by kernel_rfl) ent51 (c_spec_l01Point hy1) ?_
     rintro _ w3 ⟨rfl, hc2⟩
     replace F1 := F1.chg hc2 Dj.nil
     replace hB := hB.inS hc2 inNil
     have hSz := hS
     replace hS := hS.inS hc2 inNil
     replace hZ := Nat.le_trans hZ hc2.size
     refine ⟨.bool (y1), rfl, ?_⟩
     refine wS_end (by kernel_rfl) ?_
     refine eX_KH hS ?_
     refine wH_take [5, 6] [6, 5, 4, 3, 2, 1, 0] [(24, .bool (!y1)), (23, .bool (!y1))] (by kernel_rfl) (qT (qT (qB (qT (qL (qB (qT (qT qZ)))))))) (by kernel_rfl) ?_
     refine wH_bool (!y1) (fun hb4 => ?_) (fun hb4 => ?_)
     ·have hm := condT hb4 hm
      rewrite [hb4]
      refine wH_take [7, 8, 9, 10, 11, 12, 13] [13, 12, 11, 10, 9, 8, 7, 6, 5, 4, 3, 2, 1, 0] [(31, undef), (30, undef), (29, undef), (28, undef), (27, undef), (26, undef), (25, undef)] (by kernel_rfl) (qT (qT (qB (qT (qL (qB (qT (qT qZ)))))))) (by kernel_rfl) ?_
      refine wH_done (by kernel_rfl) ?_
      refine eX_tail ?_
      refine wS_pure 3 [(34, .bool (true)), (33, undef), (32, undef)] (by kernel_rfl) ?_
      refine wS_end (by rfl) ?_
      refine eX_then ?_
      refine cW_cond_t (by kernel_rfl) ?_
      refine cW_seq ?_
      refine cW_region ?_
      refine wS_pure 1 [(2, .bool (false))] (by kernel_rfl) ?_
      refine wS_end (by rfl) ?_
      refine eX_then ?_
      refine cW_prune [(2, .bool (false))] (by kernel_rfl) (by kernel_rfl) (fun a1 => ?_)
      refine cW_ret ?_
      refine eX_block_ret ?_
      refine eX_then_ret ?_
      have hq : (some (Ctl.out (Sum.inr false)) : Option (Ctl (Int) (Sum (Unit) ((Bool))))) = some _ := hm
      replace hq := someE hq
      subst hq
      refine eX_outR hx1 (fun hr => ?_)
      subst hr
      refine eX_block_ret ?_
      refine eX_then_ret ?_
      refine eX_then_ret ?_
      have hq : (some false : Option ((Bool))) = some _ := hm1
      replace hq := someE hq
      subst hq
      refine eX_ret (vs := [.bool (false)]) [.tmp 2] (by rfl) ⟨by (show lkE _ _ _ = _); kernel_rfl, trivial⟩ ?_
      exact ⟨rfl, hB⟩
     ·have hm := condF hb4 hm
      rewrite [hb4]
      refine wH_take [7, 8] [8, 7, 6, 5, 4, 3, 2, 1, 0] [(26, .int .i64 (x1)), (25, .slice A0 (l0).length cap0)] (by kernel_rfl) (qT (qT (qB (qT (qL (qB (qT (qT qZ)))))))) (by kernel_rfl) ?_
      obtain ⟨y2, hy2, hm⟩ := bindE hm
      refine wH_slice (k := 2) (enc := encII) (fp := fp0) (l := l0) (i := 9) (d := 27) (T := 26) (A := A0) (cap := cap0) (vlo := none) (vhi := some (.int .i64 (x1))) (lo := 0) (hi := x1) (n := 0) (by kernel_rfl) (qT (qT (qB (qT (qL (qB (qT (qT qZ)))))))) (by kernel_rfl) (by kernel_rfl) sl26 (Or.inr ⟨rfl, rfl⟩) (Or.inl rfl) K0 hy2 ?_
      intro A1 cap1 hcut1 hcap1
      have F2 := hcut1 _ F1
      have Fz1 := hcut1 _ Z1
      refine wH_take [10, 11] [11, 10, 9, 8, 7, 6, 5, 4, 3, 2, 1, 0] [(29, .int .i64 (x1)), (28, .slice A0 (l0).length cap0)] (by kernel_rfl) (qT (qT (qB (qT (qL (qB (qT (qT qZ)))))))) (by kernel_rfl) ?_
      obtain ⟨x3, hx3, hm⟩ := bindE hm
      refine wH_idx (i := 12) (d := 30) (T := 26) (A := A0) (n := (l0).length) (cap := cap0) (kd := .i64) (m := x1) (by kernel_rfl) (qT (qT (qB (qT (qL (qB (qT (qT qZ)))))))) (by kernel_rfl) (by kernel_rfl) sl26 (F1.is hx3) ?_
      refine wH_loadA (i := 13) (d := 31) (T := 34) (ad := (elA A0 2 (x1) 0)) (vs := [.int .i64 (x3.1), .int .i64 (x3.2)]) (by kernel_rfl) (qT (qT (qB (qT (qL (qB (qT (qT qZ)))))))) (by kernel_rfl) (by kernel_rfl) vt34 (fun W hW i u hu => Sl.cells_at (Z1.chg hW Dj.nil) hx3 0 hu (by rfl)) ?_
      refine wH_done (by kernel_rfl) ?_
      refine eX_tail ?_
      obtain ⟨y3, hy3, hm⟩ := bindE hm
      refine wS_calls (d := 32) (f := 49) (vs := [.slice A1 (y2).length cap1, .agg #[.int .i64 (x3.1), .int .i64 (x3.2)]]) (by kernel_rfl) ent49 (c_spec_l01Index hy3 F2) ?_
      rintro _ w4 ⟨rfl, hc3⟩
      replace F1 := F1.chg hc3 Dj.nil
      replace F2 := F2.chg hc3 Dj.nil
      replace hB := hB.inS hc3 inNil
      replace hZ := Nat.le_trans hZ hc3.size
      refine ⟨.int .i64 (y3), rfl, ?_⟩
      refine wS_pure 2 [(34, .bool (decide (y3 ≥ 0))), (33, .bool (decide (y3 ≥ 0)))] (by kernel_rfl) ?_
      refine wS_end (by rfl) ?_
      refine eX_then ?_
      refine cW_cond (t := decide (y3 ≥ 0)) (by kernel_rfl) (fun hb5 => ?_) (fun hb5 => ?_)
      ·have hm := condT hb5 hm
       refine cW_seq ?_
       refine cW_region ?_
       refine wS_pure 1 [(2, .bool (false))] (by kernel_rfl) ?_
       refine wS_end (by rfl) ?_
       refine eX_then ?_
       refine cW_prune [(2, .bool (false))] (by kernel_rfl) (by kernel_rfl) (fun a2 => ?_)
       refine cW_ret ?_
       refine eX_block_ret ?_
       refine eX_then_ret ?_
       have hq : (some (Ctl.out (Sum.inr false)) : Option (Ctl (Int) (Sum (Unit) ((Bool))))) = some _ := hm
       replace hq := someE hq
       subst hq
       refine eX_outR hx1 (fun hr => ?_)
       subst hr
       refine eX_block_ret ?_
       refine eX_then_ret ?_
       refine eX_then_ret ?_
       have hq : (some false : Option ((Bool))) = some _ := hm1
       replace hq := someE hq
       subst hq
       refine eX_ret (vs := [.bool (false)]) [.tmp 2] (by rfl) ⟨by (show lkE _ _ _ = _); kernel_rfl, trivial⟩ ?_
       exact ⟨rfl, hB⟩
      ·have hm := condF hb5 hm
       refine cW_skip ?_
       refine eX_block ?_
       refine eX_then ?_
       refine cW_region ?_
       refine wS_pure 3 [(3, .int .i64 (wr (x1 + 1))), (17, .int .i64 (wr (x1 + 1))), (16, .int .i64 (x1))] (by kernel_rfl) ?_
       refine wS_end (by rfl) ?_
       have hq : (some (Ctl.next (wr (x1 + 1))) : Option (Ctl (Int) (Sum (Unit) ((Bool))))) = some _ := hm
       replace hq := someE hq
       subst hq
       exact eX_next hx1 (fun hst => ⟨wr (x1 + 1), rfl, Fr.of hst (by kernel_rfl), F1, hB, hZ⟩)
    ·have hm := condF hb3 hm
     refine cW_exit ?_
     refine eX_then_exit ?_
     have hq : (some (Ctl.out (Sum.inl (()))) : Option (Ctl (Int) (Sum (Unit) ((Bool))))) = some _ := hm
     replace hq := someE hq
     subst hq
     refine eX_outX hx1 (fun hr2 => ?_)
     replace hr2 := hr2.symm
     subst hr2
     refine eX_block_hit ?_
     exact eX_J (fun hst => ⟨rfl, Fr.of hst (by kernel_rfl), hB, hZ⟩)
   ·rintro a' w5 ⟨hJ, hF2, hB, hZ⟩
    subst hJ
    refine Fr.goX hF2 (by kernel_rfl) ?_
    refine eX_then ?_
    refine cW_seq ?_
    refine cW_region ?_
    refine wS_pure 1 [(2, .bool (true))] (by kernel_rfl) ?_
    refine wS_end (by rfl) ?_
    refine eX_then ?_
    refine cW_ret ?_
    have hq : (some true : Option ((Bool))) = some _ := hm
    replace hq := someE hq
    subst hq
    refine eX_ret (vs := [.bool (true)]) [.tmp 2] (by rfl) ⟨by (show lkE _ _ _ = _); kernel_rfl, trivial⟩ ?_
    exact ⟨rfl, hB⟩

set_option maxRecDepth 100000 in
/-- spec.l05Few -/
theorem c_spec_l05Few {w0 : World} {l0 : List (Int × Int)} {A0 : Option Addr} {cap0 : Nat} {fp0 : List Nat} {r : (Bool)} (hm : m_spec_l05Few l0 = some r) (F0 : Sl 2 encII w0 fp0 A0 l0) (K0 : (l0).length ≤ cap0) :
  Calls Try.prog 18 #[.slice A0 (l0).length cap0] w0 fun e w' => e = .returned (.bool (r)) ∧ Chg [] w0 w' := by
 have L0 := F0.low
 have hB : Chg [] w0 w0 := Chg.refl _ _
 have hZ := Nat.le_refl w0.heap.size
 unfold m_spec_l05Few at hm
 refine enterE (N := 10) Try.func18 (by rfl) Try.ntmps18 (by simp) [(0, .slice A0 (l0).length cap0)] (by rfl) (by kernel_rfl) (fun a => ?_)
 refine cW_seq ?_
 refine cW_region ?_
 refine wS_pure 1 [(2, .bool (false))] (by kernel_rfl) ?_
 refine wS_end (by rfl) ?_
 refine eX_then ?_
 refine cW_seq ?_
 refine cW_region ?_
 refine wS_pure 1 [(3, .slice A0 (l0).length cap0)] (by kernel_rfl) ?_
 obtain ⟨y1, hy1, hm⟩ := bindE hm
 refine wS_calls (d := 4) (f := 34) (vs := [.slice A0 (l0).length cap0]) (by kernel_rfl) ent34 (c_spec_l05Is hy1 F0 K0) ?_
 rintro _ w1 ⟨rfl, hc1⟩
 replace F0 := F0.chg hc1 Dj.nil
 replace hB := hB.inS hc1 inNil
 replace hZ := Nat.le_trans hZ hc1.size
 refine ⟨.bool (y1), rfl, ?_⟩
 refine wS_pure 1 [(5, .bool (y1))] (by kernel_rfl) ?_
 refine wS_bool y1 (fun hb1 => ?_) (fun hb1 => ?_)
 ·have hm := condT hb1 hm
  rewrite [hb1]
  refine wS_pure 5 [(2, .bool (decide ((((l0).length : Int)) ≤ 7))), (9, .bool (decide ((((l0).length : Int)) ≤ 7))), (8, .bool (decide ((((l0).length : Int)) ≤ 7))), (7, .int .i64 (((l0).length : Int))), (6, .slice A0 (l0).length cap0)] (by kernel_rfl) ?_
  refine wS_end (by rfl) ?_
  refine eX_then ?_
  refine cW_ret ?_
  have hq : (some (decide ((((l0).length : Int)) ≤ 7)) : Option ((Bool))) = some _ := hm
  replace hq := someE hq
  subst hq
  refine eX_ret (vs := [.bool (decide ((((l0).length : Int)) ≤ 7))]) [.tmp 2] (by rfl) ⟨by (show lkE _ _ _ = _); kernel_rfl, trivial⟩ ?_
  exact ⟨rfl, hB⟩
 ·have hm := condF hb1 hm
  rewrite [hb1]
  refine wS_pure 5 [(2, .bool (false)), (9, .bool (false)), (8, undef), (7, undef), (6, undef)] (by kernel_rfl) ?_
  refine wS_end (by rfl) ?_
  refine eX_then ?_
  refine cW_ret ?_
  have hq : (some false : Option ((Bool))) = some _ := hm
  replace hq := someE hq
  subst hq
  refine eX_ret (vs := [.bool (false)]) [.tmp 2] (by rfl) ⟨by (show lkE _ _ _ = _); kernel_rfl, trivial⟩ ?_
  exact ⟨rfl, hB⟩

set_option maxRecDepth 100000 in
/-- spec.l00Max -/
theorem c_spec_l00Max {w0 : World} {p0 : Int} {p1 : Int} {r : (Int)} (hm : m_spec_l00Max p0 p1 = some r)  :
  Calls Try.prog 71 #[.int .i64 (p0), .int .i64 (p1)] w0 fun e w' => e = .returned (.int .i64 (r)) ∧ Chg [] w0 w' := by
 have hB : Chg [] w0 w0 := Chg.refl _ _
 have hZ := Nat.le_refl w0.heap.size
 unfold m_spec_l00Max at hm
 refine enterE (N := 10) Try.func71 (by rfl) Try.ntmps71 (by simp) [(0, .int .i64 (p0)), (1, .int .i64 (p1))] (by rfl) (by kernel_rfl) (fun a => ?_)
 refine cW_seq ?_
 refine cW_region ?_
 refine wS_pure 1 [(4, .int .i64 (0))] (by kernel_rfl) ?_
 refine wS_end (by rfl) ?_
 refine eX_then ?_
 refine cW_seq ?_
 refine cW_seq ?_
 refine cW_region ?_
 refine wS_pure 3 [(7, .bool (decide (p0 > p1))), (6, .int .i64 (p1)), (5, .int .i64 (p0))] (by kernel_rfl) ?_
 refine wS_end (by rfl) ?_
 refine eX_then ?_
 refine cW_cond (t := decide (p0 > p1)) (by kernel_rfl) (fun hb1 => ?_) (fun hb1 => ?_)
 ·have hm := condT hb1 hm
  refine cW_seq ?_
  refine cW_region ?_
  refine wS_pure 2 [(4, .int .i64 (p0)), (8, .int .i64 (p0))] (by kernel_rfl) ?_
  refine wS_end (by rfl) ?_
  refine eX_then ?_
  refine cW_ret ?_
  refine eX_then_ret ?_
  have hq : (some p0 : Option ((Int))) = some _ := hm
  replace hq := someE hq
  subst hq
  refine eX_ret (vs := [.int .i64 (p0)]) [.tmp 4] (by rfl) ⟨by (show lkE _ _ _ = _); kernel_rfl, trivial⟩ ?_
  exact ⟨rfl, hB⟩
 ·have hm := condF hb1 hm
  refine cW_skip ?_
  refine eX_then ?_
  refine cW_seq ?_
  refine cW_region ?_
  refine wS_pure 2 [(4, .int .i64 (p1)), (9, .int .i64 (p1))] (by kernel_rfl) ?_
  refine wS_end (by rfl) ?_
  refine eX_then ?_
  refine cW_ret ?_
  have hq : (some p1 : Option ((Int))) = some _ := hm
  replace hq := someE hq
  subst hq
  refine eX_ret (vs := [.int .i64 (p1)]) [.tmp 4] (by rfl) ⟨by (show lkE _ _ _ = _); kernel_rfl, trivial⟩ ?_
  exact ⟨rfl, hB⟩

set_option maxRecDepth 100000 in
/-- spec.l01Abs -/
theorem c_spec_l01Abs {w0 : World} {p0 : Int} {r : (Int)} (hm : m_spec_l01Abs p0 = some r)  :
  Calls Try.prog 55 #[.int .i64 (p0)] w0 fun e w' => e = .returned (.int .i64 (r)) ∧ Chg [] w0 w' := by
 have hB : Chg [] w0 w0 := Chg.refl _ _
 have hZ := Nat.le_refl w0.heap.size
 unfold m_spec_l01Abs at hm
 refine enterE (N := 7) Try.func55 (by rfl) Try.ntmps55 (by simp) [(0, .int .i64 (p0))] (by rfl) (by kernel_rfl) (fun a => ?_)
 refine cW_seq ?_
 refine cW_region ?_
 refine wS_pure 1 [(2, .int .i64 (0))] (by kernel_rfl) ?_
 refine wS_end (by rfl) ?_
 refine eX_then ?_
 refine cW_seq ?_
 refine cW_region ?_
 refine wS_pure 3 [(5, .int .i64 (wr (0 - p0))), (4, .int .i64 (p0)), (3, .int .i64 (p0))] (by kernel_rfl) ?_
 obtain ⟨y1, hy1, hm⟩ := bindE hm
 refine wS_calls (d := 6) (f := 71) (vs := [.int .i64 (p0), .int .i64 (wr (0 - p0))]) (by kernel_rfl) ent71 (c_spec_l00Max hy1) ?_
 rintro _ w1 ⟨rfl, hc1⟩
 replace hB := hB.inS hc1 inNil
 replace hZ := Nat.le_trans hZ hc1.size
 refine ⟨.int .i64 (y1), rfl, ?_⟩
 refine wS_pure 1 [(2, .int .i64 (y1))] (by kernel_rfl) ?_
 refine wS_end (by rfl) ?_
 refine eX_then ?_
 refine cW_ret ?_
 have hq : (some y1 : Option ((Int))) = some _ := hm
 replace hq := someE hq
 subst hq
 refine eX_ret (vs := [.int .i64 (y1)]) [.tmp 2] (by rfl) ⟨by (show lkE _ _ _ = _); kernel_rfl, trivial⟩ ?_
 exact ⟨rfl, hB⟩

set_option maxRecDepth 100000 in
/-- spec.l01Far -/
theorem c_spec_l01Far {w0 : World} {p0_0 : Int} {p0_1 : Int} {p1_0 : Int} {p1_1 : Int} {r : (Int)} (hm : m_spec_l01Far p0_0 p0_1 p1_0 p1_1 = some r)  :
  Calls Try.prog 37 #[.agg #[.int .i64 (p0_0), .int .i64 (p0_1)], .agg #[.int .i64 (p1_0), .int .i64 (p1_1)]] w0 fun e w' => e = .returned (.int .i64 (r)) ∧ Chg [] w0 w' := by
 have hB : Chg [] w0 w0 := Chg.refl _ _
 have hZ := Nat.le_refl w0.heap.size
 unfold m_spec_l01Far at hm
 refine enterE (N := 18) Try.func37 (by rfl) Try.ntmps37 (by simp) [(0, .agg #[.int .i64 (p0_0), .int .i64 (p0_1)]), (1, .agg #[.int .i64 (p1_0), .int .i64 (p1_1)])] (by rfl) (by kernel_rfl) (fun a => ?_)
 refine cW_seq ?_
 refine cW_region ?_
 refine wS_box (d := 2) (T := 34) (x := .agg #[.int .i64 (p0_0), .int .i64 (p0_1)]) (by kernel_rfl) ?_
 intro b1 w1 G1 F1 hc1
 replace F1 : Cl w1 b1 34 [.int .i64 (p0_0), .int .i64 (p0_1)] := F1
 replace hB := hB.inS hc1 inNil
 replace G1 := Nat.le_trans hZ G1
 replace hZ := Nat.le_trans hZ hc1.size
 refine wS_box (d := 3) (T := 34) (x := .agg #[.int .i64 (p1_0), .int .i64 (p1_1)]) (by kernel_rfl) ?_
 intro b2 w2 G2 F2 hc2
 replace F2 : Cl w2 b2 34 [.int .i64 (p1_0), .int .i64 (p1_1)] := F2
 have D1 : Dj [b1] [b2] := Dj.of (lt1 F1.lt) (low1 G2)
 replace F1 := F1.chg hc2 notNil
 replace hB := hB.inS hc2 inNil
 replace G2 := Nat.le_trans hZ G2
 replace hZ := Nat.le_trans hZ hc2.size
 refine wS_pure 1 [(4, .int .i64 (0))] (by kernel_rfl) ?_
 refine wS_end (by rfl) ?_
 refine eX_then ?_
 refine cW_seq ?_
 refine cW_drawnTail [] 11 (by kernel_rfl) (by kernel_rfl) (fun w3 hc3 => ?_)
 replace F1 := F1.chg hc3 notNil
 replace F2 := F2.chg hc3 notNil
 replace hB := hB.inS hc3 inNil
 replace hZ := Nat.le_trans hZ hc3.size
 have hS := Chg.refl [] w3
 have Z1 := F1
 have Z2 := F2
 refine wH_take [0] [0] [(5, .pointer (some ⟨b1, 0, none⟩))] (by kernel_rfl) (qT (qT qZ)) (by kernel_rfl) ?_
 refine wH_load1 (i := 1) (d := 6) (T := 2) (ad := ⟨b1, 0, none⟩) (v := .int .i64 (p0_0)) (by kernel_rfl) (qT (qT qZ)) (by kernel_rfl) (by kernel_rfl) vt2 (fun W hW => (Z1.chg hW notNil).cell 0) ?_
 refine wH_take [2] [2, 1, 0] [(7, .pointer (some ⟨b2, 0, none⟩))] (by kernel_rfl) (qT (qT qZ)) (by kernel_rfl) ?_
 refine wH_load1 (i := 3) (d := 8) (T := 2) (ad := ⟨b2, 0, none⟩) (v := .int .i64 (p1_0)) (by kernel_rfl) (qT (qT qZ)) (by kernel_rfl) (by kernel_rfl) vt2 (fun W hW => (Z2.chg hW notNil).cell 0) ?_
 refine wH_take [4, 6] [6, 4, 3, 2, 1, 0] [(11, .pointer (some ⟨b1, 1, none⟩)), (9, .int .i64 (wr (p0_0 - p1_0)))] (by kernel_rfl) (qT (qT qZ)) (by kernel_rfl) ?_
 refine wH_load1 (i := 7) (d := 12) (T := 2) (ad := ⟨b1, 1, none⟩) (v := .int .i64 (p0_1)) (by kernel_rfl) (qT (qT qZ)) (by kernel_rfl) (by kernel_rfl) vt2 (fun W hW => (Z1.chg hW notNil).cell 1) ?_
 refine wH_take [8] [8, 7, 6, 4, 3, 2, 1, 0] [(13, .pointer (some ⟨b2, 1, none⟩))] (by kernel_rfl) (qT (qT qZ)) (by kernel_rfl) ?_
 refine wH_load1 (i := 9) (d := 14) (T := 2) (ad := ⟨b2, 1, none⟩) (v := .int .i64 (p1_1)) (by kernel_rfl) (qT (qT qZ)) (by kernel_rfl) (by kernel_rfl) vt2 (fun W hW => (Z2.chg hW notNil).cell 1) ?_
 refine wH_take [10] [10, 9, 8, 7, 6, 4, 3, 2, 1, 0] [(15, .int .i64 (wr (p0_1 - p1_1)))] (by kernel_rfl) (qT (qT qZ)) (by kernel_rfl) ?_
 refine wH_all [5] (by rfl) (by kernel_rfl) (by simp) ⟨⟨by kernel_rfl, ?_⟩, trivial⟩
 obtain ⟨y1, hy1, hm⟩ := bindE hm
 refine wS_calls (d := 10) (f := 55) (vs := [.int .i64 (wr (p0_0 - p1_0))]) (by kernel_rfl) ent55 (c_spec_l01Abs hy1) ?_
 rintro _ w4 ⟨rfl, hc4⟩
 replace F1 := F1.chg hc4 notNil
 replace F2 := F2.chg hc4 notNil
 replace hB := hB.inS hc4 inNil
 have hSz := hS
 replace hS := hS.inS hc4 inNil
 replace hZ := Nat.le_trans hZ hc4.size
 refine ⟨.int .i64 (y1), rfl, ?_⟩
 refine wS_end (by kernel_rfl) ?_
 refine eX_KH hS ?_
 refine wH_done (by kernel_rfl) ?_
 refine eX_tail ?_
 obtain ⟨y2, hy2, hm⟩ := bindE hm
 refine wS_calls (d := 16) (f := 55) (vs := [.int .i64 (wr (p0_1 - p1_1))]) (by kernel_rfl) ent55 (c_spec_l01Abs hy2) ?_
 rintro _ w5 ⟨rfl, hc5⟩
 replace F1 := F1.chg hc5 notNil
 replace F2 := F2.chg hc5 notNil
 replace hB := hB.inS hc5 inNil
 replace hZ := Nat.le_trans hZ hc5.size
 refine ⟨.int .i64 (y2), rfl, ?_⟩
 refine wS_pure 2 [(4, .int .i64 (wr (y1 + y2))), (17, .int .i64 (wr (y1 + y2)))] (by kernel_rfl) ?_
 refine wS_end (by rfl) ?_
 refine eX_then ?_
 refine cW_ret ?_
 have hq : (some (wr (y1 + y2)) : Option ((Int))) = some _ := hm
 replace hq := someE hq
 subst hq
 refine eX_ret (vs := [.int .i64 (wr (y1 + y2))]) [.tmp 4] (by rfl) ⟨by (show lkE _ _ _ = _); kernel_rfl, trivial⟩ ?_
 exact ⟨rfl, hB⟩

set_option maxRecDepth 100000 in
/-- spec.l05Tree -/
theorem c_spec_l05Tree {w0 : World} {l0 : List (Int × Int)} {A0 : Option Addr} {cap0 : Nat} {fp0 : List Nat} {r : (List (List (Int))) × (Int)} (hm : m_spec_l05Tree l0 = some r) (F0 : Sl 2 encII w0 fp0 A0 l0) :
  Calls Try.prog 19 #[.slice A0 (l0).length cap0] w0 fun e w' => ∃ A100 cap100 fp100 fr100, e = .returned (.tuple #[.slice A100 (r.1).length cap100, .int .i64 (r.2)]) ∧ OwR 1 encI 66 2 w' fp100 fr100 A100 cap100 r.1 ∧ (∀ x ∈ fp100 ++ fr100, w0.heap.size ≤ x) ∧ Chg [] w0 w' := by
 have L0 := F0.low
 have hB : Chg [] w0 w0 := Chg.refl _ _
 have hZ := Nat.le_refl w0.heap.size
 unfold m_spec_l05Tree at hm
 refine enterE (N := 88) Try.func19 (by rfl) Try.ntmps19 (by simp) [(0, .slice A0 (l0).length cap0)] (by rfl) (by kernel_rfl) (fun a => ?_)
 refine cW_seq ?_
 refine cW_region ?_
 refine wS_pure 2 [(3, .int .i64 (0)), (2, .slice none 0 0)] (by kernel_rfl) ?_
 refine wS_end (by rfl) ?_
 refine eX_then ?_
 refine cW_seq ?_
 refine cW_region ?_
 refine wS_pure 3 [(4, .int .i64 (((l0).length : Int))), (14, .int .i64 (((l0).length : Int))), (13, .slice A0 (l0).length cap0)] (by kernel_rfl) ?_
 refine wS_end (by rfl) ?_
 refine eX_then ?_
 refine cW_seq ?_
 refine cW_region ?_
 refine wS_pure 1 [(15, .int .i64 (((l0).length : Int)))] (by kernel_rfl) ?_
 obtain ⟨_, hk1, hm⟩ := bindE hm
 replace hk1 := mkE hk1
 refine wS_make (enc := encB) (x0 := (false : Bool)) (d := 16) (t := 65) (T := 4) (k1 := .i64) (k2 := .i64) (m := ((l0).length : Int)) (by kernel_rfl) el65 encB_ok (by rfl) hk1.1 hk1.2 ?_
 intro b1 w1 G1 F1 hc1
 replace F0 := F0.chg hc1 Dj.nil
 replace hB := hB.inS hc1 inNil
 replace G1 := Nat.le_trans hZ G1
 replace G1 := low1 G1
 replace hZ := Nat.le_trans hZ hc1.size
 refine wS_pure 1 [(5, .slice (some ⟨b1, 0, none⟩) (List.replicate (Int.toNat (((l0).length : Int))) ((false : Bool))).length (Int.toNat (((l0).length : Int))))] (by kernel_rfl) ?_
 refine wS_end (by rfl) ?_
 refine eX_then ?_
 refine cW_seq ?_
 refine cW_region ?_
 refine wS_pure 1 [(17, .slice (some ⟨b1, 0, none⟩) (List.replicate (Int.toNat (((l0).length : Int))) ((false : Bool))).length (Int.toNat (((l0).length : Int))))] (by kernel_rfl) ?_
 obtain ⟨x1, hx1, hm⟩ := bindE hm
 refine wS_idx (d := 18) (T := 65) (A := (some ⟨b1, 0, none⟩)) (n := (List.replicate (Int.toNat (((l0).length : Int))) ((false : Bool))).length) (cap := (Int.toNat (((l0).length : Int)))) (kd := .i64) (m := 0) (by kernel_rfl) sl65 ((F1.sl encB_ok).is hx1) ?_
 refine wS_storeEl (x := x1) true (T := 4) (U := 4) (cap := (Int.toNat (((l0).length : Int)))) (j := 0) (A := (some ⟨b1, 0, none⟩)) (v := .bool (true)) (vs := [.bool (true)]) (m := 0) (by kernel_rfl) (by rfl) sz4 (by rfl) encB_ok F1 hx1 (by simp only [List.length_cons, List.length_nil]; omega) (by rfl) ?_
 intro w2 F2 hc2
 replace F0 := F0.chg hc2 (Dj.of L0 G1)
 replace hB := hB.inS hc2 (inLow G1)
 replace hZ := Nat.le_trans hZ hc2.size
 clear F1
 rewrite [show (List.replicate (Int.toNat (((l0).length : Int))) ((false : Bool))).length = ((List.replicate (Int.toNat (((l0).length : Int))) ((false : Bool))).set (Int.toNat 0) true).length from (List.length_set ..).symm]
 refine wS_end (by rfl) ?_
 refine eX_then ?_
 refine cW_seq ?_
 refine cW_region ?_
 refine wS_rows0 (k := 1) (enc := encI) (d := 19) (t := 40) (T := 66) (T2 := 2) (by kernel_rfl) el40 ?_
 intro b2 w3 G2 F3 hc3
 have D1 : Dj [b1] ([b2] ++ []) := Dj.of F2.low (lowApp (low1 G2) lowNil)
 replace F0 := F0.chg hc3 Dj.nil
 replace F2 := F2.chg hc3 Dj.nil
 replace hB := hB.inS hc3 inNil
 replace G2 := Nat.le_trans hZ G2
 replace G2 := low1 G2
 replace hZ := Nat.le_trans hZ hc3.size
 replace G2 := lowApp G2 lowNil
 refine wS_pure 1 [(6, .slice (some ⟨b2, 0, none⟩) (([] : List (List (Int)))).length 0)] (by kernel_rfl) ?_
 refine wS_end (by rfl) ?_
 refine eX_then ?_
 refine cW_seq ?_
 refine cW_region ?_
 refine wS_pure 1 [(7, .int .i64 (0))] (by kernel_rfl) ?_
 refine wS_end (by rfl) ?_
 refine eX_then ?_
 refine cW_seq ?_
 obtain ⟨r1, hr1, hm⟩ := bindE hm
 have hm1 := hm
 refine cW_cut (fun a' w' => ∃ l1 : List (List (Int)), ∃ A1 : Option Addr, ∃ cap1 : Nat, ∃ fp1 : List Nat, ∃ fr1 : List Nat, ∃ x2 : Int, (l1, x2) = r1 ∧ Fr 88 [(6, .slice A1 (l1).length cap1), (7, .int .i64 (x2))] a' ∧ OwR 1 encI 66 2 w' fp1 fr1 A1 cap1 l1 ∧ (∀ x ∈ (fp1 ++ fr1), w0.heap.size ≤ x) ∧ Chg [] w0 w' ∧ w0.heap.size ≤ w'.heap.size) ?_ ?_
 ·refine cW_block ?_
  refine cW_loop _ (fun (s1 : (List (List (Int))) × Int × (List (Bool))) a' w' => ∃ l2 : List (List (Int)), ∃ A3 : Option Addr, ∃ cap3 : Nat, ∃ fp2 : List Nat, ∃ fr2 : List Nat, ∃ x3 : Int, ∃ l3 : List (Bool), (l2, x3, l3) = s1 ∧ Fr 88 [(0, .slice A0 (l0).length cap0), (4, .int .i64 (((l0).length : Int))), (5, .slice (some ⟨b1, 0, none⟩) (l3).length (Int.toNat (((l0).length : Int)))), (6, .slice A3 (l2).length cap3), (7, .int .i64 (x3))] a' ∧ Sl 2 encII w' fp0 A0 l0 ∧ Ow 1 encB 4 w' [b1] (some ⟨b1, 0, none⟩) (Int.toNat (((l0).length : Int))) l3 ∧ OwR 1 encI 66 2 w' fp2 fr2 A3 cap3 l2 ∧ (∀ x ∈ (fp2 ++ fr2), w0.heap.size ≤ x) ∧ Dj [b1] (fp2 ++ fr2) ∧ Chg [] w0 w' ∧ w0.heap.size ≤ w'.heap.size) hr1 (fun hst => ⟨([] : List (List (Int))), (some ⟨b2, 0, none⟩), 0, [b2], [], 0, (List.replicate (Int.toNat (((l0).length : Int))) ((false : Bool))).set (Int.toNat 0) true, rfl, Fr.of hst (by kernel_rfl), F0, F2, F3, G2, D1, hB, hZ⟩) ?_
  rintro _ c1 a' w4 ⟨l2, A3, cap3, fp2, fr2, x3, l3, rfl, hF1, F4, F5, F6, G3, D2, hB, hZ⟩ hx2
  refine Fr.goOn hF1 (by kernel_rfl) ?_
  have hm := hx2
  unfold m_spec_l05Tree_s9 at hm
  refine cW_seq ?_
  refine cW_seq ?_
  refine cW_region ?_
  refine wS_pure 5 [(24, .bool (decide ((((l2).length : Int)) < (wr ((((l0).length : Int)) - 1))))), (23, .int .i64 (wr ((((l0).length : Int)) - 1))), (22, .int .i64 (((l0).length : Int))), (21, .int .i64 (((l2).length : Int))), (20, .slice A3 (l2).length cap3)] (by kernel_rfl) ?_
  refine wS_end (by rfl) ?_
  refine eX_then ?_
  refine cW_cond (t := decide ((((l2).length : Int)) < (wr ((((l0).length : Int)) - 1)))) (by kernel_rfl) (fun hb1 => ?_) (fun hb1 => ?_)
  ·have hm := condT hb1 hm
   refine cW_skip ?_
   refine eX_then ?_
   refine cW_block ?_
   refine cW_seq ?_
   refine cW_region ?_
   refine wS_bs0 (α := Int) (enc := encI) (d := 25) (t := 66) (T := 2) (by kernel_rfl) el66 ?_
   intro b3 w5 G4 F7 hc4
   have D3 : Dj [b1] [b3] := Dj.of F5.low (low1 G4)
   have D4 : Dj (fp2 ++ fr2) [b3] := Dj.of F6.low (low1 G4)
   replace F4 := F4.chg hc4 Dj.nil
   replace F5 := F5.chg hc4 Dj.nil
   replace F6 := F6.chg hc4 Dj.nil
   replace hB := hB.inS hc4 inNil
   replace G4 := Nat.le_trans hZ G4
   replace G4 := low1 G4
   replace hZ := Nat.le_trans hZ hc4.size
   refine wS_pure 1 [(8, .slice (some ⟨b3, 0, none⟩) (([] : List (Int))).length 0)] (by kernel_rfl) ?_
   refine wS_end (by rfl) ?_
   refine eX_then ?_
   refine cW_seq ?_
   refine cW_region ?_
   refine wS_pure 1 [(9, .int .i64 ((-1)))] (by kernel_rfl) ?_
   refine wS_end (by rfl) ?_
   refine eX_then ?_
   refine cW_seq ?_
   refine cW_seq ?_
   refine cW_region ?_
   refine wS_pure 1 [(10, .int .i64 (0))] (by kernel_rfl) ?_
   refine wS_end (by rfl) ?_
   refine eX_then ?_
   obtain ⟨r2, hr2, hm⟩ := bindE hm
   have hm2 := hm
   refine cW_cut (fun a' w' => ∃ l4 : List (Int), ∃ A4 : Option Addr, ∃ cap4 : Nat, ∃ fp3 : List Nat, ∃ x4 : Int, (l4, x4) = r2 ∧ Fr 88 [(0, .slice A0 (l0).length cap0), (4, .int .i64 (((l0).length : Int))), (5, .slice (some ⟨b1, 0, none⟩) (l3).length (Int.toNat (((l0).length : Int)))), (6, .slice A3 (l2).length cap3), (7, .int .i64 (x3)), (8, .slice A4 (l4).length cap4), (9, .int .i64 (x4))] a' ∧ Sl 2 encII w' fp0 A0 l0 ∧ Ow 1 encB 4 w' [b1] (some ⟨b1, 0, none⟩) (Int.toNat (((l0).length : Int))) l3 ∧ OwR 1 encI 66 2 w' fp2 fr2 A3 cap3 l2 ∧ Ow 1 encI 2 w' fp3 A4 cap4 l4 ∧ (∀ x ∈ fp3, w0.heap.size ≤ x) ∧ Dj [b1] fp3 ∧ Dj (fp2 ++ fr2) fp3 ∧ Chg [] w0 w' ∧ w0.heap.size ≤ w'.heap.size) ?_ ?_
   ·refine cW_block ?_
    refine cW_loop _ (fun (s2 : (List (Int)) × Int × Int) a' w' => ∃ l5 : List (Int), ∃ A5 : Option Addr, ∃ cap5 : Nat, ∃ fp4 : List Nat, ∃ x5 : Int, ∃ x6 : Int, (l5, x5, x6) = s2 ∧ Fr 88 [(0, .slice A0 (l0).length cap0), (4, .int .i64 (((l0).length : Int))), (5, .slice (some ⟨b1, 0, none⟩) (l3).length (Int.toNat (((l0).length : Int)))), (6, .slice A3 (l2).length cap3), (7, .int .i64 (x3)), (8, .slice A5 (l5).length cap5), (9, .int .i64 (x5)), (10, .int .i64 (x6))] a' ∧ Sl 2 encII w' fp0 A0 l0 ∧ Ow 1 encB 4 w' [b1] (some ⟨b1, 0, none⟩) (Int.toNat (((l0).length : Int))) l3 ∧ OwR 1 encI 66 2 w' fp2 fr2 A3 cap3 l2 ∧ Ow 1 encI 2 w' fp4 A5 cap5 l5 ∧ (∀ x ∈ fp4, w0.heap.size ≤ x) ∧ Dj [b1] fp4 ∧ Dj (fp2 ++ fr2) fp4 ∧ Chg [] w0 w' ∧ w0.heap.size ≤ w'.heap.size) hr2 (fun hst => ⟨([] : List (Int)), (some ⟨b3, 0, none⟩), 0, [b3], (-1), 0, rfl, Fr.of hst (by kernel_rfl), F4, F5, F6, F7, G4, D3, D4, hB, hZ⟩) ?_
    rintro _ c2 a' w6 ⟨l5, A5, cap5, fp4, x5, x6, rfl, hF2, F8, F9, F10, F11, G5, D5, D6, hB, hZ⟩ hx3
    refine Fr.goOn hF2 (by kernel_rfl) ?_
    have hm := hx3
    unfold m_spec_l05Tree_s12 at hm
    refine cW_seq ?_
    refine cW_seq ?_
    refine cW_region ?_
    refine wS_pure 3 [(28, .bool (decide (x6 < (((l0).length : Int))))), (27, .int .i64 (((l0).length : Int))), (26, .int .i64 (x6))] (by kernel_rfl) ?_
    refine wS_end (by rfl) ?_
    refine eX_then ?_
    refine cW_cond (t := decide (x6 < (((l0).length : Int)))) (by kernel_rfl) (fun hb2 => ?_) (fun hb2 => ?_)
    ·have hm := condT hb2 hm
     refine cW_skip ?_
     refine eX_then ?_
     refine cW_seq ?_
     refine cW_block ?_
     refine cW_seq ?_
     refine cW_region ?_
     refine wS_pure 3 [(11, .int .i64 (wr (x6 + 1))), (32, .int .i64 (wr (x6 + 1))), (31, .int .i64 (x6))] (by kernel_rfl) ?_
     refine wS_end (by rfl) ?_
     refine eX_then ?_
     obtain ⟨r3, hr3, hm⟩ := bindE hm
     have hm3 := hm
     refine cW_cut (fun a' w' => ∃ l6 : List (Int), ∃ A6 : Option Addr, ∃ cap6 : Nat, ∃ fp5 : List Nat, ∃ x7 : Int, (l6, x7) = r3 ∧ Fr 88 [(0, .slice A0 (l0).length cap0), (4, .int .i64 (((l0).length : Int))), (5, .slice (some ⟨b1, 0, none⟩) (l3).length (Int.toNat (((l0).length : Int)))), (6, .slice A3 (l2).length cap3), (7, .int .i64 (x3)), (8, .slice A6 (l6).length cap6), (9, .int .i64 (x7)), (10, .int .i64 (x6))] a' ∧ Sl 2 encII w' fp0 A0 l0 ∧ Ow 1 encB 4 w' [b1] (some ⟨b1, 0, none⟩) (Int.toNat (((l0).length : Int))) l3 ∧ OwR 1 encI 66 2 w' fp2 fr2 A3 cap3 l2 ∧ Ow 1 encI 2 w' fp5 A6 cap6 l6 ∧ (∀ x ∈ fp5, w0.heap.size ≤ x) ∧ Dj [b1] fp5 ∧ Dj (fp2 ++ fr2) fp5 ∧ Chg [] w0 w' ∧ w0.heap.size ≤ w'.heap.size) ?_ ?_
     ·refine cW_block ?_
      refine cW_loop _ (fun (s3 : (List (Int)) × Int × Int) a' w' => ∃ l7 : List (Int), ∃ A7 : Option Addr, ∃ cap7 : Nat, ∃ fp6 : List Nat, ∃ x8 : Int, ∃ x9 : Int, (l7, x8, x9) = s3 ∧ Fr 88 [(0, .slice A0 (l0).length cap0), (4, .int .i64 (((l0).length : Int))), (5, .slice (some ⟨b1, 0, none⟩) (l3).length (Int.toNat (((l0).length : Int)))), (6, .slice A3 (l2).length cap3), (7, .int .i64 (x3)), (8, .slice A7 (l7).length cap7), (9, .int .i64 (x8)), (10, .int .i64 (x6)), (11, .int .i64 (x9))] a' ∧ Sl 2 encII w' fp0 A0 l0 ∧ Ow 1 encB 4 w' [b1] (some ⟨b1, 0, none⟩) (Int.toNat (((l0).length : Int))) l3 ∧ OwR 1 encI 66 2 w' fp2 fr2 A3 cap3 l2 ∧ Ow 1 encI 2 w' fp6 A7 cap7 l7 ∧ (∀ x ∈ fp6, w0.heap.size ≤ x) ∧ Dj [b1] fp6 ∧ Dj (fp2 ++ fr2) fp6 ∧ Chg [] w0 w' ∧ w0.heap.size ≤ w'.heap.size) hr3 (fun hst => ⟨l5, A5, cap5, fp4, x5, wr (x6 + 1), rfl, Fr.of hst (by kernel_rfl), F8, F9, F10, F11, G5, D5, D6, hB, hZ⟩) ?_
      rintro _ c3 a' w7 ⟨l7, A7, cap7, fp6, x8, x9, rfl, hF3, F12, F13, F14, F15, G6, D7, D8, hB, hZ⟩ hx4
      refine Fr.goOn hF3 (by kernel_rfl) ?_
      have hm := hx4
      unfold m_spec_l05Tree_s13 at hm
      refine cW_seq ?_
      refine cW_seq ?_
      refine cW_region ?_
      refine wS_pure 3 [(35, .bool (decide (x9 < (((l0).length : Int))))), (34, .int .i64 (((l0).length : Int))), (33, .int .i64 (x9))] (by kernel_rfl) ?_
      refine wS_end (by rfl) ?_
      refine eX_then ?_
      refine cW_cond (t := decide (x9 < (((l0).length : Int)))) (by kernel_rfl) (fun hb3 => ?_) (fun hb3 => ?_)
      ·have hm := condT hb3 hm
       refine cW_skip ?_
       refine eX_then ?_
       refine cW_seq ?_
       refine cW_block ?_
       obtain ⟨s4, hs1, hm⟩ := bindE hm
       refine cW_cut (fun a' w' => ∃ l8 : List (Int), ∃ A8 : Option Addr, ∃ cap8 : Nat, ∃ fp7 : List Nat, ∃ x10 : Int, (l8, x10) = s4 ∧ Fr 88 [(0, .slice A0 (l0).length cap0), (4, .int .i64 (((l0).length : Int))), (5, .slice (some ⟨b1, 0, none⟩) (l3).length (Int.toNat (((l0).length : Int)))), (6, .slice A3 (l2).length cap3), (7, .int .i64 (x3)), (8, .slice A8 (l8).length cap8), (9, .int .i64 (x10)), (10, .int .i64 (x6)), (11, .int .i64 (x9))] a' ∧ Sl 2 encII w' fp0 A0 l0 ∧ Ow 1 encB 4 w' [b1] (some ⟨b1, 0, none⟩) (Int.toNat (((l0).length : Int))) l3 ∧ OwR 1 encI 66 2 w' fp2 fr2 A3 cap3 l2 ∧ Ow 1 encI 2 w' fp7 A8 cap8 l8 ∧ (∀ x ∈ fp7, w0.heap.size ≤ x) ∧ Dj [b1] fp7 ∧ Dj (fp2 ++ fr2) fp7 ∧ Chg [] w0 w' ∧ w0.heap.size ≤ w'.heap.size) ?_ ?_
       ·have hm := hs1
        refine cW_seq ?_
        refine cW_drawnTail [] 8 (by kernel_rfl) (by kernel_rfl) (fun w8 hc5 => ?_)
        replace F12 := F12.chg hc5 Dj.nil
        replace F13 := F13.chg hc5 Dj.nil
        replace F14 := F14.chg hc5 Dj.nil
        replace F15 := F15.chg hc5 Dj.nil
        replace hB := hB.inS hc5 inNil
        replace hZ := Nat.le_trans hZ hc5.size
        have hS := Chg.refl [] w8
        have Z1 := F12
        have Z2 := F13
        have Z3 := F14
        have Z4 := F15
        refine wH_take [0, 1] [1, 0] [(39, .int .i64 (x6)), (38, .slice A0 (l0).length cap0)] (by kernel_rfl) (qT (qT (qT (qB (qT (qL (qB (qT (qB (qT (qL (qB (qT (qT (qB (qL (qB (qT (qT qZ))))))))))))))))))) (by kernel_rfl) ?_
        obtain ⟨x11, hx5, hm⟩ := bindE hm
        refine wH_idx (i := 2) (d := 40) (T := 26) (A := A0) (n := (l0).length) (cap := cap0) (kd := .i64) (m := x6) (by kernel_rfl) (qT (qT (qT (qB (qT (qL (qB (qT (qB (qT (qL (qB (qT (qT (qB (qL (qB (qT (qT qZ))))))))))))))))))) (by kernel_rfl) (by kernel_rfl) sl26 (F12.is hx5) ?_
        refine wH_loadA (i := 3) (d := 41) (T := 34) (ad := (elA A0 2 (x6) 0)) (vs := [.int .i64 (x11.1), .int .i64 (x11.2)]) (by kernel_rfl) (qT (qT (qT (qB (qT (qL (qB (qT (qB (qT (qL (qB (qT (qT (qB (qL (qB (qT (qT qZ))))))))))))))))))) (by kernel_rfl) (by kernel_rfl) vt34 (fun W hW i u hu => Sl.cells_at (Z1.chg hW Dj.nil) hx5 0 hu (by rfl)) ?_
        refine wH_take [4, 5] [5, 4, 3, 2, 1, 0] [(43, .int .i64 (x9)), (42, .slice A0 (l0).length cap0)] (by kernel_rfl) (qT (qT (qT (qB (qT (qL (qB (qT (qB (qT (qL (qB (qT (qT (qB (qL (qB (qT (qT qZ))))))))))))))))))) (by kernel_rfl) ?_
        obtain ⟨x12, hx6, hm⟩ := bindE hm
        refine wH_idx (i := 6) (d := 44) (T := 26) (A := A0) (n := (l0).length) (cap := cap0) (kd := .i64) (m := x9) (by kernel_rfl) (qT (qT (qT (qB (qT (qL (qB (qT (qB (qT (qL (qB (qT (qT (qB (qL (qB (qT (qT qZ))))))))))))))))))) (by kernel_rfl) (by kernel_rfl) sl26 (F12.is hx6) ?_
        refine wH_loadA (i := 7) (d := 45) (T := 34) (ad := (elA A0 2 (x9) 0)) (vs := [.int .i64 (x12.1), .int .i64 (x12.2)]) (by kernel_rfl) (qT (qT (qT (qB (qT (qL (qB (qT (qB (qT (qL (qB (qT (qT (qB (qL (qB (qT (qT qZ))))))))))))))))))) (by kernel_rfl) (by kernel_rfl) vt34 (fun W hW i u hu => Sl.cells_at (Z1.chg hW Dj.nil) hx6 0 hu (by rfl)) ?_
        refine wH_done (by kernel_rfl) ?_
        refine eX_tail ?_
        obtain ⟨y1, hy1, hm⟩ := bindE hm
        refine wS_calls (d := 46) (f := 37) (vs := [.agg #[.int .i64 (x11.1), .int .i64 (x11.2)], .agg #[.int .i64 (x12.1), .int .i64 (x12.2)]]) (by kernel_rfl) ent37 (c_spec_l01Far hy1) ?_
        rintro _ w9 ⟨rfl, hc6⟩
        replace F12 := F12.chg hc6 Dj.nil
        replace F13 := F13.chg hc6 Dj.nil
        replace F14 := F14.chg hc6 Dj.nil
        replace F15 := F15.chg hc6 Dj.nil
        replace hB := hB.inS hc6 inNil
        replace hZ := Nat.le_trans hZ hc6.size
        refine ⟨.int .i64 (y1), rfl, ?_⟩
        refine wS_pure 1 [(12, .int .i64 (y1))] (by kernel_rfl) ?_
        refine wS_end (by rfl) ?_
        refine eX_then ?_
        refine cW_seq ?_
        refine cW_drawnTail [] 15 (by kernel_rfl) (by kernel_rfl) (fun w10 hc7 => ?_)
        replace F12 := F12.chg hc7 Dj.nil
        replace F13 := F13.chg hc7 Dj.nil
        replace F14 := F14.chg hc7 Dj.nil
        replace F15 := F15.chg hc7 Dj.nil
        replace hB := hB.inS hc7 inNil
        replace hZ := Nat.le_trans hZ hc7.size
        have hS := Chg.refl [] w10
        have Z5 := F12
        have Z6 := F13
        have Z7 := F14
        have Z8 := F15
        refine wH_take [0, 1] [1, 0] [(48, .int .i64 (x6)), (47, .slice (some ⟨b1, 0, none⟩) (l3).length (Int.toNat (((l0).length : Int))))] (by kernel_rfl) (qT (qT (qT (qB (qT (qL (qB (qT (qB (qT (qL (qB (qT (qT (qB (qL (qB (qT (qT qZ))))))))))))))))))) (by kernel_rfl) ?_
        obtain ⟨x13, hx7, hm⟩ := bindE hm
        refine wH_idx (i := 2) (d := 49) (T := 65) (A := (some ⟨b1, 0, none⟩)) (n := (l3).length) (cap := (Int.toNat (((l0).length : Int)))) (kd := .i64) (m := x6) (by kernel_rfl) (qT (qT (qT (qB (qT (qL (qB (qT (qB (qT (qL (qB (qT (qT (qB (qL (qB (qT (qT qZ))))))))))))))))))) (by kernel_rfl) (by kernel_rfl) sl65 ((F13.sl encB_ok).is hx7) ?_
        refine wH_load1 (i := 3) (d := 50) (T := 4) (ad := (elA (some ⟨b1, 0, none⟩) 1 (x6) 0)) (v := .bool (x13)) (by kernel_rfl) (qT (qT (qT (qB (qT (qL (qB (qT (qB (qT (qL (qB (qT (qT (qB (qL (qB (qT (qT qZ))))))))))))))))))) (by kernel_rfl) (by kernel_rfl) vt4 (fun W hW => Sl.cell ((Z6.chg hW Dj.nil).sl encB_ok) hx7 0 (by rfl)) ?_
        refine wH_take [4, 5] [5, 4, 3, 2, 1, 0] [(52, .int .i64 (x9)), (51, .slice (some ⟨b1, 0, none⟩) (l3).length (Int.toNat (((l0).length : Int))))] (by kernel_rfl) (qT (qT (qT (qB (qT (qL (qB (qT (qB (qT (qL (qB (qT (qT (qB (qL (qB (qT (qT qZ))))))))))))))))))) (by kernel_rfl) ?_
        obtain ⟨x14, hx8, hm⟩ := bindE hm
        refine wH_idx (i := 6) (d := 53) (T := 65) (A := (some ⟨b1, 0, none⟩)) (n := (l3).length) (cap := (Int.toNat (((l0).length : Int)))) (kd := .i64) (m := x9) (by kernel_rfl) (qT (qT (qT (qB (qT (qL (qB (qT (qB (qT (qL (qB (qT (qT (qB (qL (qB (qT (qT qZ))))))))))))))))))) (by kernel_rfl) (by kernel_rfl) sl65 ((F13.sl encB_ok).is hx8) ?_
        refine wH_load1 (i := 7) (d := 54) (T := 4) (ad := (elA (some ⟨b1, 0, none⟩) 1 (x9) 0)) (v := .bool (x14)) (by kernel_rfl) (qT (qT (qT (qB (qT (qL (qB (qT (qB (qT (qL (qB (qT (qT (qB (qL (qB (qT (qT qZ))))))))))))))))))) (by kernel_rfl) (by kernel_rfl) vt4 (fun W hW => Sl.cell ((Z6.chg hW Dj.nil).sl encB_ok) hx8 0 (by rfl)) ?_
        refine wH_take [8, 9] [9, 8, 7, 6, 5, 4, 3, 2, 1, 0] [(56, .bool (!(x13 == x14))), (55, .bool (!(x13 == x14)))] (by kernel_rfl) (qT (qT (qT (qB (qT (qL (qB (qT (qB (qT (qL (qB (qT (qT (qB (qL (qB (qT (qT qZ))))))))))))))))))) (by kernel_rfl) ?_
        refine wH_bool (!(x13 == x14)) (fun hb4 => ?_) (fun hb4 => ?_)
        ·have hm := condT hb4 hm
         rewrite [hb4]
         refine wH_take [10, 11, 12] [12, 11, 10, 9, 8, 7, 6, 5, 4, 3, 2, 1, 0] [(59, .bool (decide (x8 < 0))), (58, .bool (decide (x8 < 0))), (57, .int .i64 (x8))] (by kernel_rfl) (qT (qT (qT (qB (qT (qL (qB (qT (qB (qT (qL (qB (qT (qT (qB (qL (qB (qT (qT qZ))))))))))))))))))) (by kernel_rfl) ?_
         refine wH_bool (decide (x8 < 0)) (fun hb5 => ?_) (fun hb5 => ?_)
         ·have hm := condT hb5 hm
          rewrite [hb5]
          refine wH_take [13, 14] [14, 13, 12, 11, 10, 9, 8, 7, 6, 5, 4, 3, 2, 1, 0] [(61, undef), (60, undef)] (by kernel_rfl) (qT (qT (qT (qB (qT (qL (qB (qT (qB (qT (qL (qB (qT (qT (qB (qL (qB (qT (qT qZ))))))))))))))))))) (by kernel_rfl) ?_
          refine wH_done (by kernel_rfl) ?_
          refine eX_tail ?_
          refine wS_pure 3 [(64, .bool (true)), (63, .bool (true)), (62, undef)] (by kernel_rfl) ?_
          refine wS_end (by rfl) ?_
          refine eX_then ?_
          refine cW_prune [(0, .slice A0 (l0).length cap0), (4, .int .i64 (((l0).length : Int))), (5, .slice (some ⟨b1, 0, none⟩) (l3).length (Int.toNat (((l0).length : Int)))), (6, .slice A3 (l2).length cap3), (7, .int .i64 (x3)), (8, .slice A7 (l7).length cap7), (9, .int .i64 (x8)), (10, .int .i64 (x6)), (11, .int .i64 (x9)), (12, .int .i64 (y1)), (64, .bool (true))] (by kernel_rfl) (by kernel_rfl) (fun a1 => ?_)
          refine cW_cond_t (by kernel_rfl) ?_
          refine cW_seq ?_
          refine cW_region ?_
          refine wS_pure 2 [(66, .int .i64 (x9)), (65, .int .i64 (x6))] (by kernel_rfl) ?_
          refine wS_bs (enc := encI) ([x6, x9] : List (Int)) [.int .i64 (x6), .int .i64 (x9)] (d := 67) (t := 66) (T := 2) (n := 2) (ps := [(0, .int .i64 (x6)), (1, .int .i64 (x9))]) (by kernel_rfl) el66 encI_ok (by rfl) (by omega) (by omega) (by kernel_rfl) (by rfl) ?_
          intro b4 w11 G7 F16 hc8
          have D9 : Dj [b1] [b4] := Dj.of F13.low (low1 G7)
          have D10 : Dj (fp2 ++ fr2) [b4] := Dj.of F14.low (low1 G7)
          have D11 : Dj fp6 [b4] := Dj.of F15.low (low1 G7)
          replace F12 := F12.chg hc8 Dj.nil
          replace F13 := F13.chg hc8 Dj.nil
          replace F14 := F14.chg hc8 Dj.nil
          replace F15 := F15.chg hc8 Dj.nil
          replace hB := hB.inS hc8 inNil
          replace G7 := Nat.le_trans hZ G7
          replace G7 := low1 G7
          replace hZ := Nat.le_trans hZ hc8.size
          refine wS_pure 1 [(8, .slice (some ⟨b4, 0, none⟩) (([x6, x9] : List (Int))).length 2)] (by kernel_rfl) ?_
          refine wS_end (by rfl) ?_
          refine eX_then ?_
          refine cW_region ?_
          refine wS_pure 2 [(9, .int .i64 (y1)), (68, .int .i64 (y1))] (by kernel_rfl) ?_
          refine wS_end (by rfl) ?_
          have hq : (some ((([x6, x9] : List (Int)), y1)) : Option ((List (Int)) × Int)) = some _ := hm
          replace hq := someE hq
          subst hq
          exact eX_J (fun hst => ⟨([x6, x9] : List (Int)), (some ⟨b4, 0, none⟩), 2, [b4], y1, rfl, Fr.of hst (by kernel_rfl), F12, F13, F14, F16, G7, D9, D10, hB, hZ⟩)
         ·have hm := condF hb5 hm
          rewrite [hb5]
          refine wH_take [13, 14] [14, 13, 12, 11, 10, 9, 8, 7, 6, 5, 4, 3, 2, 1, 0] [(61, .int .i64 (x8)), (60, .int .i64 (y1))] (by kernel_rfl) (qT (qT (qT (qB (qT (qL (qB (qT (qB (qT (qL (qB (qT (qT (qB (qL (qB (qT (qT qZ))))))))))))))))))) (by kernel_rfl) ?_
          refine wH_done (by kernel_rfl) ?_
          refine eX_tail ?_
          refine wS_pure 3 [(64, .bool (decide (y1 < x8))), (63, .bool (decide (y1 < x8))), (62, .bool (decide (y1 < x8)))] (by kernel_rfl) ?_
          refine wS_end (by rfl) ?_
          refine eX_then ?_
          refine cW_prune [(0, .slice A0 (l0).length cap0), (4, .int .i64 (((l0).length : Int))), (5, .slice (some ⟨b1, 0, none⟩) (l3).length (Int.toNat (((l0).length : Int)))), (6, .slice A3 (l2).length cap3), (7, .int .i64 (x3)), (8, .slice A7 (l7).length cap7), (9, .int .i64 (x8)), (10, .int .i64 (x6)), (11, .int .i64 (x9)), (12, .int .i64 (y1)), (64, .bool (decide (y1 < x8)))] (by kernel_rfl) (by kernel_rfl) (fun a2 => ?_)
          refine cW_cond (t := decide (y1 < x8)) (by kernel_rfl) (fun hb6 => ?_) (fun hb6 => ?_)
          ·have hm := condT hb6 hm
           refine cW_seq ?_
           refine cW_region ?_
           refine wS_pure 2 [(66, .int .i64 (x9)), (65, .int .i64 (x6))] (by kernel_rfl) ?_
           refine wS_bs (enc := encI) ([x6, x9] : List (Int)) [.int .i64 (x6), .int .i64 (x9)] (d := 67) (t := 66) (T := 2) (n := 2) (ps := [(0, .int .i64 (x6)), (1, .int .i64 (x9))]) (by kernel_rfl) el66 encI_ok (by rfl) (by omega) (by omega) (by kernel_rfl) (by rfl) ?_
           intro b5 w12 G8 F17 hc9
           have D12 : Dj [b1] [b5] := Dj.of F13.low (low1 G8)
           have D13 : Dj (fp2 ++ fr2) [b5] := Dj.of F14.low (low1 G8)
           have D14 : Dj fp6 [b5] := Dj.of F15.low (low1 G8)
           replace F12 := F12.chg hc9 Dj.nil
           replace F13 := F13.chg hc9 Dj.nil
           replace F14 := F14.chg hc9 Dj.nil
           replace F15 := F15.chg hc9 Dj.nil
           replace hB := hB.inS hc9 inNil
           replace G8 := Nat.le_trans hZ G8
           replace G8 := low1 G8
           replace hZ := Nat.le_trans hZ hc9.size
           refine wS_pure 1 [(8, .slice (some ⟨b5, 0, none⟩) (([x6, x9] : List (Int))).length 2)] (by kernel_rfl) ?_
           refine wS_end (by rfl) ?_
           refine eX_then ?_
           refine cW_region ?_
           refine wS_pure 2 [(9, .int .i64 (y1)), (68, .int .i64 (y1))] (by kernel_rfl) ?_
           refine wS_end (by rfl) ?_
           have hq : (some ((([x6, x9] : List (Int)), y1)) : Option ((List (Int)) × Int)) = some _ := hm
           replace hq := someE hq
           subst hq
           exact eX_J (fun hst => ⟨([x6, x9] : List (Int)), (some ⟨b5, 0, none⟩), 2, [b5], y1, rfl, Fr.of hst (by kernel_rfl), F12, F13, F14, F17, G8, D12, D13, hB, hZ⟩)
          ·have hm := condF hb6 hm
           refine cW_skip ?_
           have hq : (some ((l7, x8)) : Option ((List (Int)) × Int)) = some _ := hm
           replace hq := someE hq
           subst hq
           exact eX_J (fun hst => ⟨l7, A7, cap7, fp6, x8, rfl, Fr.of hst (by kernel_rfl), F12, F13, F14, F15, G6, D7, D8, hB, hZ⟩)
        ·have hm := condF hb4 hm
         rewrite [hb4]
         refine wH_take [10, 11, 12, 13, 14] [14, 13, 12, 11, 10, 9, 8, 7, 6, 5, 4, 3, 2, 1, 0] [(61, undef), (60, undef), (59, undef), (58, undef), (57, undef)] (by kernel_rfl) (qT (qT (qT (qB (qT (qL (qB (qT (qB (qT (qL (qB (qT (qT (qB (qL (qB (qT (qT qZ))))))))))))))))))) (by kernel_rfl) ?_
         refine wH_done (by kernel_rfl) ?_
         refine eX_tail ?_
         refine wS_pure 3 [(64, .bool (false)), (63, undef), (62, undef)] (by kernel_rfl) ?_
         refine wS_end (by rfl) ?_
         refine eX_then ?_
         refine cW_prune [(0, .slice A0 (l0).length cap0), (4, .int .i64 (((l0).length : Int))), (5, .slice (some ⟨b1, 0, none⟩) (l3).length (Int.toNat (((l0).length : Int)))), (6, .slice A3 (l2).length cap3), (7, .int .i64 (x3)), (8, .slice A7 (l7).length cap7), (9, .int .i64 (x8)), (10, .int .i64 (x6)), (11, .int .i64 (x9)), (12, .int .i64 (y1)), (64, .bool (false))] (by kernel_rfl) (by kernel_rfl) (fun a3 => ?_)
         refine cW_cond_f (by kernel_rfl) ?_
         refine cW_skip ?_
         have hq : (some ((l7, x8)) : Option ((List (Int)) × Int)) = some _ := hm
         replace hq := someE hq
         subst hq
         exact eX_J (fun hst => ⟨l7, A7, cap7, fp6, x8, rfl, Fr.of hst (by kernel_rfl), F12, F13, F14, F15, G6, D7, D8, hB, hZ⟩)
       ·rintro a' w13 ⟨l8, A8, cap8, fp7, x10, hJ, hF4, F18, F19, F20, F21, G9, D15, D16, hB, hZ⟩
        subst hJ
        refine Fr.goX hF4 (by kernel_rfl) ?_
        refine eX_block ?_
        refine eX_then ?_
        refine cW_region ?_
        refine wS_pure 3 [(11, .int .i64 (wr (x9 + 1))), (37, .int .i64 (wr (x9 + 1))), (36, .int .i64 (x9))] (by kernel_rfl) ?_
        refine wS_end (by rfl) ?_
        have hq : (some (Ctl.next ((l8, x10, wr (x9 + 1)))) : Option (Ctl ((List (Int)) × Int × Int) ((List (Int)) × Int))) = some _ := hm
        replace hq := someE hq
        subst hq
        exact eX_next hx4 (fun hst => ⟨l8, A8, cap8, fp7, x10, wr (x9 + 1), rfl, Fr.of hst (by kernel_rfl), F18, F19, F20, F21, G9, D15, D16, hB, hZ⟩)
      ·have hm := condF hb3 hm
       refine cW_exit ?_
       refine eX_then_exit ?_
       have hq : (some (Ctl.out ((l7, x8))) : Option (Ctl ((List (Int)) × Int × Int) ((List (Int)) × Int))) = some _ := hm
       replace hq := someE hq
       subst hq
       refine eX_outX hx4 (fun hr4 => ?_)
       replace hr4 := hr4.symm
       subst hr4
       refine eX_block_hit ?_
       exact eX_J (fun hst => ⟨l7, A7, cap7, fp6, x8, rfl, Fr.of hst (by kernel_rfl), F12, F13, F14, F15, G6, D7, D8, hB, hZ⟩)
     ·rintro a' w14 ⟨l6, A6, cap6, fp5, x7, hJ, hF5, F22, F23, F24, F25, G10, D17, D18, hB, hZ⟩
      subst hJ
      refine Fr.goX hF5 (by kernel_rfl) ?_
      refine eX_block ?_
      refine eX_then ?_
      refine cW_region ?_
      refine wS_pure 3 [(10, .int .i64 (wr (x6 + 1))), (30, .int .i64 (wr (x6 + 1))), (29, .int .i64 (x6))] (by kernel_rfl) ?_
      refine wS_end (by rfl) ?_
      have hq : (some (Ctl.next ((l6, x7, wr (x6 + 1)))) : Option (Ctl ((List (Int)) × Int × Int) ((List (Int)) × Int))) = some _ := hm
      replace hq := someE hq
      subst hq
      exact eX_next hx3 (fun hst => ⟨l6, A6, cap6, fp5, x7, wr (x6 + 1), rfl, Fr.of hst (by kernel_rfl), F22, F23, F24, F25, G10, D17, D18, hB, hZ⟩)
    ·have hm := condF hb2 hm
     refine cW_exit ?_
     refine eX_then_exit ?_
     have hq : (some (Ctl.out ((l5, x5))) : Option (Ctl ((List (Int)) × Int × Int) ((List (Int)) × Int))) = some _ := hm
     replace hq := someE hq
     subst hq
     refine eX_outX hx3 (fun hr5 => ?_)
     replace hr5 := hr5.symm
     subst hr5
     refine eX_block_hit ?_
     exact eX_J (fun hst => ⟨l5, A5, cap5, fp4, x5, rfl, Fr.of hst (by kernel_rfl), F8, F9, F10, F11, G5, D5, D6, hB, hZ⟩)
   ·rintro a' w15 ⟨l4, A4, cap4, fp3, x4, hJ, hF6, F26, F27, F28, F29, G11, D19, D20, hB, hZ⟩
    subst hJ
    refine Fr.goX hF6 (by kernel_rfl) ?_
    refine eX_then ?_
    refine cW_seq ?_
    refine cW_region ?_
    refine wS_pure 2 [(70, .slice A4 (l4).length cap4), (69, .slice (some ⟨b1, 0, none⟩) (l3).length (Int.toNat (((l0).length : Int))))] (by kernel_rfl) ?_
    obtain ⟨x15, hx9, hm⟩ := bindE hm
    refine wS_idx (d := 71) (T := 66) (A := A4) (n := (l4).length) (cap := cap4) (kd := .i64) (m := 0) (by kernel_rfl) sl66 ((F29.sl encI_ok).is hx9) ?_
    refine wS_load1 (d := 72) (T := 2) (ad := (elA A4 1 (0) 0)) (v := .int .i64 (x15)) (by kernel_rfl) vt2 (Sl.cell (F29.sl encI_ok) hx9 0 (by rfl)) ?_
    obtain ⟨x16, hx10, hm⟩ := bindE hm
    refine wS_idx (d := 73) (T := 65) (A := (some ⟨b1, 0, none⟩)) (n := (l3).length) (cap := (Int.toNat (((l0).length : Int)))) (kd := .i64) (m := x15) (by kernel_rfl) sl65 ((F27.sl encB_ok).is hx10) ?_
    refine wS_storeEl (x := x16) true (T := 4) (U := 4) (cap := (Int.toNat (((l0).length : Int)))) (j := 0) (A := (some ⟨b1, 0, none⟩)) (v := .bool (true)) (vs := [.bool (true)]) (m := x15) (by kernel_rfl) (by rfl) sz4 (by rfl) encB_ok F27 hx10 (by simp only [List.length_cons, List.length_nil]; omega) (by rfl) ?_
    intro w16 F30 hc10
    replace F26 := F26.chg hc10 (Dj.of L0 G1)
    replace F28 := F28.chg hc10 (D2).symm
    replace F29 := F29.chg hc10 (D19).symm
    replace hB := hB.inS hc10 (inLow G1)
    replace hZ := Nat.le_trans hZ hc10.size
    clear F27
    rewrite [show (l3).length = (l3.set (Int.toNat x15) true).length from (List.length_set ..).symm]
    refine wS_end (by rfl) ?_
    refine eX_then ?_
    refine cW_seq ?_
    refine cW_region ?_
    refine wS_pure 2 [(75, .slice A4 (l4).length cap4), (74, .slice (some ⟨b1, 0, none⟩) (l3.set (Int.toNat x15) true).length (Int.toNat (((l0).length : Int))))] (by kernel_rfl) ?_
    obtain ⟨x17, hx11, hm⟩ := bindE hm
    refine wS_idx (d := 76) (T := 66) (A := A4) (n := (l4).length) (cap := cap4) (kd := .i64) (m := 1) (by kernel_rfl) sl66 ((F29.sl encI_ok).is hx11) ?_
    refine wS_load1 (d := 77) (T := 2) (ad := (elA A4 1 (1) 0)) (v := .int .i64 (x17)) (by kernel_rfl) vt2 (Sl.cell (F29.sl encI_ok) hx11 0 (by rfl)) ?_
    obtain ⟨x18, hx12, hm⟩ := bindE hm
    refine wS_idx (d := 78) (T := 65) (A := (some ⟨b1, 0, none⟩)) (n := (l3.set (Int.toNat x15) true).length) (cap := (Int.toNat (((l0).length : Int)))) (kd := .i64) (m := x17) (by kernel_rfl) sl65 ((F30.sl encB_ok).is hx12) ?_
    refine wS_storeEl (x := x18) true (T := 4) (U := 4) (cap := (Int.toNat (((l0).length : Int)))) (j := 0) (A := (some ⟨b1, 0, none⟩)) (v := .bool (true)) (vs := [.bool (true)]) (m := x17) (by kernel_rfl) (by rfl) sz4 (by rfl) encB_ok F30 hx12 (by simp only [List.length_cons, List.length_nil]; omega) (by rfl) ?_
    intro w17 F31 hc11
    replace F26 := F26.chg hc11 (Dj.of L0 G1)
    replace F28 := F28.chg hc11 (D2).symm
    replace F29 := F29.chg hc11 (D19).symm
    replace hB := hB.inS hc11 (inLow G1)
    replace hZ := Nat.le_trans hZ hc11.size
    clear F30
    rewrite [show (l3.set (Int.toNat x15) true).length = ((l3.set (Int.toNat x15) true).set (Int.toNat x17) true).length from (List.length_set ..).symm]
    refine wS_end (by rfl) ?_
    refine eX_then ?_
    refine cW_seq ?_
    refine cW_region ?_
    refine wS_pure 2 [(80, .slice A4 (l4).length cap4), (79, .slice A3 (l2).length cap3)] (by kernel_rfl) ?_
    refine wS_row1 (k := 1) (enc := encI) (l := l4) (d := 81) (t := 40) (T := 66) (B := A4) (c := cap4) (by kernel_rfl) el40 F29 ?_
    intro b6 w18 G12 F32 hc12
    have D21 : Dj [b1] ([b6] ++ fp3) := Dj.app (Dj.of F31.low (low1 G12)) D19
    have D22 : Dj (fp2 ++ fr2) ([b6] ++ fp3) := Dj.app (Dj.of F28.low (low1 G12)) D20
    replace F26 := F26.chg hc12 Dj.nil
    replace F31 := F31.chg hc12 Dj.nil
    replace F28 := F28.chg hc12 Dj.nil
    replace F29 := F29.chg hc12 Dj.nil
    replace hB := hB.inS hc12 inNil
    replace G12 := Nat.le_trans hZ G12
    replace G12 := lowApp (low1 G12) G11
    replace hZ := Nat.le_trans hZ hc12.size
    replace F29 := (F29.sl encI_ok)
    obtain ⟨_, hk2, hm⟩ := bindE hm
    replace hk2 := apE hk2
    refine wS_appendR (k := 1) (enc := encI) (ll := (l2 : List (List (Int)))) (ll2 := (([l4] : List (List (Int))) : List (List (Int)))) (d := 82) (t := 40) (T := 66) (A := A3) (A2 := (some ⟨b6, 0, none⟩)) (cap := cap3) (cap2 := 1) (by kernel_rfl) el40 F28 F32 (by rfl) D22 hk2 ?_
    intro w19 fp8 A9 cap9 F33 hc13 hp1
    have G13 := lowApp (low_ap (low_inl G3) hZ hp1) (lowApp (low_inr G3) (low_inr G12))
    have D23 : Dj [b1] (fp8 ++ (fr2 ++ fp3)) := Dj.app (Dj.ap (Dj.inl D2) F31.low hp1) (Dj.app (Dj.inr D2) (Dj.inr D21))
    replace F26 := F26.chg hc13 (Dj.inl (Dj.of L0 G3))
    replace F31 := F31.chg hc13 (Dj.inl D2)
    replace hB := hB.inS hc13 (memS_inl (inLow G3))
    replace hZ := Nat.le_trans hZ hc13.size
    refine wS_pure 1 [(6, .slice A9 (l2 ++ (([l4] : List (List (Int))))).length cap9)] (by kernel_rfl) ?_
    refine wS_end (by rfl) ?_
    refine eX_then ?_
    refine cW_region ?_
    refine wS_pure 4 [(7, .int .i64 (wr (x3 + x4))), (85, .int .i64 (wr (x3 + x4))), (84, .int .i64 (x4)), (83, .int .i64 (x3))] (by kernel_rfl) ?_
    refine wS_end (by rfl) ?_
    refine eX_block ?_
    have hq : (some (Ctl.next ((l2 ++ (([l4] : List (List (Int)))), wr (x3 + x4), (l3.set (Int.toNat x15) true).set (Int.toNat x17) true))) : Option (Ctl ((List (List (Int))) × Int × (List (Bool))) ((List (List (Int))) × Int))) = some _ := hm
    replace hq := someE hq
    subst hq
    exact eX_next hx2 (fun hst => ⟨l2 ++ (([l4] : List (List (Int)))), A9, cap9, fp8, (fr2 ++ fp3), wr (x3 + x4), (l3.set (Int.toNat x15) true).set (Int.toNat x17) true, rfl, Fr.of hst (by kernel_rfl), F26, F31, F33, G13, D23, hB, hZ⟩)
  ·have hm := condF hb1 hm
   refine cW_exit ?_
   refine eX_then_exit ?_
   have hq : (some (Ctl.out ((l2, x3))) : Option (Ctl ((List (List (Int))) × Int × (List (Bool))) ((List (List (Int))) × Int))) = some _ := hm
   replace hq := someE hq
   subst hq
   refine eX_outX hx2 (fun hr6 => ?_)
   replace hr6 := hr6.symm
   subst hr6
   refine eX_block_hit ?_
   exact eX_J (fun hst => ⟨l2, A3, cap3, fp2, fr2, x3, rfl, Fr.of hst (by kernel_rfl), F6, G3, hB, hZ⟩)
 ·rintro a' w20 ⟨l1, A1, cap1, fp1, fr1, x2, hJ, hF7, F34, G14, hB, hZ⟩
  subst hJ
  refine Fr.goX hF7 (by kernel_rfl) ?_
  refine eX_then ?_
  refine cW_seq ?_
  refine cW_region ?_
  refine wS_pure 4 [(3, .int .i64 (x2)), (2, .slice A1 (l1).length cap1), (87, .int .i64 (x2)), (86, .slice A1 (l1).length cap1)] (by kernel_rfl) ?_
  refine wS_end (by rfl) ?_
  refine eX_then ?_
  refine cW_ret ?_
  have hq : (some ((l1, x2)) : Option ((List (List (Int))) × (Int))) = some _ := hm
  replace hq := someE hq
  subst hq
  refine eX_ret (vs := [.slice A1 (l1).length cap1, .int .i64 (x2)]) [.tmp 2, .tmp 3] (by rfl) ⟨by (show lkE _ _ _ = _); kernel_rfl, ⟨by (show lkE _ _ _ = _); kernel_rfl, trivial⟩⟩ ?_
  exact ⟨A1, cap1, fp1, fr1, rfl, F34, G14, hB⟩

set_option maxRecDepth 100000 in
/-- spec.l03Less -/
theorem c_spec_l03Less {w0 : World} {l0 : List (Int)} {A0 : Option Addr} {cap0 : Nat} {fp0 : List Nat} {l1 : List (Int)} {A1 : Option Addr} {cap1 : Nat} {fp1 : List Nat} {r : (Bool)} (hm : m_spec_l03Less l0 l1 = some r) (F0 : Sl 1 encI w0 fp0 A0 l0) (F1 : Sl 1 encI w0 fp1 A1 l1) :
  Calls Try.prog 38 #[.slice A0 (l0).length cap0, .slice A1 (l1).length cap1] w0 fun e w' => e = .returned (.bool (r)) ∧ Chg [] w0 w' := by
 have L0 := F0.low
 have L1 := F1.low
 have hB : Chg [] w0 w0 := Chg.refl _ _
 have hZ := Nat.le_refl w0.heap.size
 unfold m_spec_l03Less at hm
 refine enterE (N := 41) Try.func38 (by rfl) Try.ntmps38 (by simp) [(0, .slice A0 (l0).length cap0), (1, .slice A1 (l1).length cap1)] (by rfl) (by kernel_rfl) (fun a => ?_)
 refine cW_seq ?_
 refine cW_region ?_
 refine wS_pure 1 [(4, .bool (false))] (by kernel_rfl) ?_
 refine wS_end (by rfl) ?_
 refine eX_then ?_
 refine cW_seq ?_
 refine cW_seq ?_
 refine cW_region ?_
 refine wS_pure 1 [(5, .int .i64 (0))] (by kernel_rfl) ?_
 refine wS_end (by rfl) ?_
 refine eX_then ?_
 obtain ⟨r1, hr1, hm⟩ := bindE hm
 have hm1 := hm
 refine cW_cut (fun a' w' => Sum.inl (()) = r1 ∧ Fr 41 [(0, .slice A0 (l0).length cap0), (1, .slice A1 (l1).length cap1)] a' ∧ Sl 1 encI w' fp0 A0 l0 ∧ Sl 1 encI w' fp1 A1 l1 ∧ Chg [] w0 w' ∧ w0.heap.size ≤ w'.heap.size) ?_ ?_
 ·refine cW_block ?_
  refine cW_loop _ (fun (s1 : Int) a' w' => ∃ x1 : Int, x1 = s1 ∧ Fr 41 [(0, .slice A0 (l0).length cap0), (1, .slice A1 (l1).length cap1), (5, .int .i64 (x1))] a' ∧ Sl 1 encI w' fp0 A0 l0 ∧ Sl 1 encI w' fp1 A1 l1 ∧ Chg [] w0 w' ∧ w0.heap.size ≤ w'.heap.size) hr1 (fun hst => ⟨0, rfl, Fr.of hst (by kernel_rfl), F0, F1, hB, hZ⟩) ?_
  rintro _ c1 a' w1 ⟨x1, rfl, hF1, F2, F3, hB, hZ⟩ hx1
  refine Fr.goOn hF1 (by kernel_rfl) ?_
  have hm := hx1
  unfold m_spec_l03Less_s1 at hm
  refine cW_seq ?_
  refine cW_seq ?_
  refine cW_region ?_
  refine wS_pure 5 [(10, .bool (decide (x1 < (((l0).length : Int))))), (9, .bool (decide (x1 < (((l0).length : Int))))), (8, .int .i64 (((l0).length : Int))), (7, .slice A0 (l0).length cap0), (6, .int .i64 (x1))] (by kernel_rfl) ?_
  refine wS_bool (decide (x1 < (((l0).length : Int)))) (fun hb1 => ?_) (fun hb1 => ?_)
  ·have hm := condT hb1 hm
   rewrite [hb1]
   refine wS_pure 5 [(15, .bool (decide (x1 < (((l1).length : Int))))), (14, .bool (decide (x1 < (((l1).length : Int))))), (13, .int .i64 (((l1).length : Int))), (12, .slice A1 (l1).length cap1), (11, .int .i64 (x1))] (by kernel_rfl) ?_
   refine wS_end (by rfl) ?_
   refine eX_then ?_
   refine cW_cond (t := decide (x1 < (((l1).length : Int)))) (by kernel_rfl) (fun hb2 => ?_) (fun hb2 => ?_)
   ·have hm := condT hb2 hm
    refine cW_skip ?_
    refine eX_then ?_
    refine cW_seq ?_
    refine cW_block ?_
    refine cW_seq ?_
    refine cW_drawnTail [] 8 (by kernel_rfl) (by kernel_rfl) (fun w2 hc1 => ?_)
    replace F2 := F2.chg hc1 Dj.nil
    replace F3 := F3.chg hc1 Dj.nil
    replace hB := hB.inS hc1 inNil
    replace hZ := Nat.le_trans hZ hc1.size
    have hS := Chg.refl [] w2
    have Z1 := F2
    have Z2 := F3
    refine wH_take [0, 1] [1, 0] [(19, .int .i64 (x1)), (18, .slice A0 (l0).length cap0)] (by kernel_rfl) (qT (qT (qB (qT (qL (qB (qT (qT qZ)))))))) (by kernel_rfl) ?_
    obtain ⟨x2, hx2, hm⟩ := bindE hm
    refine wH_idx (i := 2) (d := 20) (T := 66) (A := A0) (n := (l0).length) (cap := cap0) (kd := .i64) (m := x1) (by kernel_rfl) (qT (qT (qB (qT (qL (qB (qT (qT qZ)))))))) (by kernel_rfl) (by kernel_rfl) sl66 (F2.is hx2) ?_
    refine wH_load1 (i := 3) (d := 21) (T := 2) (ad := (elA A0 1 (x1) 0)) (v := .int .i64 (x2)) (by kernel_rfl) (qT (qT (qB (qT (qL (qB (qT (qT qZ)))))))) (by kernel_rfl) (by kernel_rfl) vt2 (fun W hW => Sl.cell (Z1.chg hW Dj.nil) hx2 0 (by rfl)) ?_
    refine wH_take [4, 5] [5, 4, 3, 2, 1, 0] [(23, .int .i64 (x1)), (22, .slice A1 (l1).length cap1)] (by kernel_rfl) (qT (qT (qB (qT (qL (qB (qT (qT qZ)))))))) (by kernel_rfl) ?_
    obtain ⟨x3, hx3, hm⟩ := bindE hm
    refine wH_idx (i := 6) (d := 24) (T := 66) (A := A1) (n := (l1).length) (cap := cap1) (kd := .i64) (m := x1) (by kernel_rfl) (qT (qT (qB (qT (qL (qB (qT (qT qZ)))))))) (by kernel_rfl) (by kernel_rfl) sl66 (F3.is hx3) ?_
    refine wH_load1 (i := 7) (d := 25) (T := 2) (ad := (elA A1 1 (x1) 0)) (v := .int .i64 (x3)) (by kernel_rfl) (qT (qT (qB (qT (qL (qB (qT (qT qZ)))))))) (by kernel_rfl) (by kernel_rfl) vt2 (fun W hW => Sl.cell (Z2.chg hW Dj.nil) hx3 0 (by rfl)) ?_
    refine wH_done (by kernel_rfl) ?_
    refine eX_tail ?_
    refine wS_pure 1 [(26, .bool (x2 != x3))] (by kernel_rfl) ?_
    refine wS_end (by rfl) ?_
    refine eX_then ?_
    refine cW_cond (t := x2 != x3) (by kernel_rfl) (fun hb3 => ?_) (fun hb3 => ?_)
    ·have hm := condT hb3 hm
     refine cW_seq ?_
     refine cW_drawnTail [] 8 (by kernel_rfl) (by kernel_rfl) (fun w3 hc2 => ?_)
     replace F2 := F2.chg hc2 Dj.nil
     replace F3 := F3.chg hc2 Dj.nil
     replace hB := hB.inS hc2 inNil
     replace hZ := Nat.le_trans hZ hc2.size
     have hS := Chg.refl [] w3
     have Z3 := F2
     have Z4 := F3
     refine wH_take [0, 1] [1, 0] [(28, .int .i64 (x1)), (27, .slice A0 (l0).length cap0)] (by kernel_rfl) (qT (qT (qB (qT (qL (qB (qT (qT qZ)))))))) (by kernel_rfl) ?_
     obtain ⟨x4, hx4, hm⟩ := bindE hm
     refine wH_idx (i := 2) (d := 29) (T := 66) (A := A0) (n := (l0).length) (cap := cap0) (kd := .i64) (m := x1) (by kernel_rfl) (qT (qT (qB (qT (qL (qB (qT (qT qZ)))))))) (by kernel_rfl) (by kernel_rfl) sl66 (F2.is hx4) ?_
     refine wH_load1 (i := 3) (d := 30) (T := 2) (ad := (elA A0 1 (x1) 0)) (v := .int .i64 (x4)) (by kernel_rfl) (qT (qT (qB (qT (qL (qB (qT (qT qZ)))))))) (by kernel_rfl) (by kernel_rfl) vt2 (fun W hW => Sl.cell (Z3.chg hW Dj.nil) hx4 0 (by rfl)) ?_
     refine wH_take [4, 5] [5, 4, 3, 2, 1, 0] [(32, .int .i64 (x1)), (31, .slice A1 (l1).length cap1)] (by kernel_rfl) (qT (qT (qB (qT (qL (qB (qT (qT qZ)))))))) (by kernel_rfl) ?_
     obtain ⟨x5, hx5, hm⟩ := bindE hm
     refine wH_idx (i := 6) (d := 33) (T := 66) (A := A1) (n := (l1).length) (cap := cap1) (kd := .i64) (m := x1) (by kernel_rfl) (qT (qT (qB (qT (qL (qB (qT (qT qZ)))))))) (by kernel_rfl) (by kernel_rfl) sl66 (F3.is hx5) ?_
     refine wH_load1 (i := 7) (d := 34) (T := 2) (ad := (elA A1 1 (x1) 0)) (v := .int .i64 (x5)) (by kernel_rfl) (qT (qT (qB (qT (qL (qB (qT (qT qZ)))))))) (by kernel_rfl) (by kernel_rfl) vt2 (fun W hW => Sl.cell (Z4.chg hW Dj.nil) hx5 0 (by rfl)) ?_
     refine wH_done (by kernel_rfl) ?_
     refine eX_tail ?_
     refine wS_pure 2 [(4, .bool (decide (x4 < x5))), (35, .bool (decide (x4 < x5)))] (by kernel_rfl) ?_
     refine wS_end (by rfl) ?_
     refine eX_then ?_
     refine cW_prune [(4, .bool (decide (x4 < x5)))] (by kernel_rfl) (by kernel_rfl) (fun a1 => ?_)
     refine cW_ret ?_
     refine eX_block_ret ?_
     refine eX_then_ret ?_
     have hq : (some (Ctl.out (Sum.inr (decide (x4 < x5)))) : Option (Ctl (Int) (Sum (Unit) ((Bool))))) = some _ := hm
     replace hq := someE hq
     subst hq
     refine eX_outR hx1 (fun hr => ?_)
     subst hr
     refine eX_block_ret ?_
     refine eX_then_ret ?_
     refine eX_then_ret ?_
     have hq : (some (decide (x4 < x5)) : Option ((Bool))) = some _ := hm1
     replace hq := someE hq
     subst hq
     refine eX_ret (vs := [.bool (decide (x4 < x5))]) [.tmp 4] (by rfl) ⟨by (show lkE _ _ _ = _); kernel_rfl, trivial⟩ ?_
     exact ⟨rfl, hB⟩
    ·have hm := condF hb3 hm
     refine cW_skip ?_
     refine eX_block ?_
     refine eX_then ?_
     refine cW_region ?_
     refine wS_pure 3 [(5, .int .i64 (wr (x1 + 1))), (17, .int .i64 (wr (x1 + 1))), (16, .int .i64 (x1))] (by kernel_rfl) ?_
     refine wS_end (by rfl) ?_
     have hq : (some (Ctl.next (wr (x1 + 1))) : Option (Ctl (Int) (Sum (Unit) ((Bool))))) = some _ := hm
     replace hq := someE hq
     subst hq
     exact eX_next hx1 (fun hst => ⟨wr (x1 + 1), rfl, Fr.of hst (by kernel_rfl), F2, F3, hB, hZ⟩)
   ·have hm := condF hb2 hm
    refine cW_exit ?_
    refine eX_then_exit ?_
    have hq : (some (Ctl.out (Sum.inl (()))) : Option (Ctl (Int) (Sum (Unit) ((Bool))))) = some _ := hm
    replace hq := someE hq
    subst hq
    refine eX_outX hx1 (fun hr2 => ?_)
    replace hr2 := hr2.symm
    subst hr2
    refine eX_block_hit ?_
    exact eX_J (fun hst => ⟨rfl, Fr.of hst (by kernel_rfl), F2, F3, hB, hZ⟩)
  ·have hm := condF hb1 hm
   rewrite [hb1]
   refine wS_pure 5 [(15, .bool (false)), (14, undef), (13, undef), (12, undef), (11, undef)] (by kernel_rfl) ?_
   refine wS_end (by rfl) ?_
   refine eX_then ?_
   refine cW_cond_f (by kernel_rfl) ?_
   refine cW_exit ?_
   refine eX_then_exit ?_
   have hq : (some (Ctl.out (Sum.inl (()))) : Option (Ctl (Int) (Sum (Unit) ((Bool))))) = some _ := hm
   replace hq := someE hq
   subst hq
   refine eX_outX hx1 (fun hr3 => ?_)
   replace hr3 := hr3.symm
   subst hr3
   refine eX_block_hit ?_
   exact eX_J (fun hst => ⟨rfl, Fr.of hst (by kernel_rfl), F2, F3, hB, hZ⟩)
 ·rintro a' w4 ⟨hJ, hF2, F4, F5, hB, hZ⟩
  subst hJ
  refine Fr.goX hF2 (by kernel_rfl) ?_
  refine eX_then ?_
  refine cW_seq ?_
  refine cW_region ?_
  refine wS_pure 6 [(4, .bool (decide ((((l0).length : Int)) < (((l1).length : Int))))), (40, .bool (decide ((((l0).length : Int)) < (((l1).length : Int))))), (39, .int .i64 (((l1).length : Int))), (38, .slice A1 (l1).length cap1), (37, .int .i64 (((l0).length : Int))), (36, .slice A0 (l0).length cap0)] (by kernel_rfl) ?_
  refine wS_end (by rfl) ?_
  refine eX_then ?_
  refine cW_ret ?_
  have hq : (some (decide ((((l0).length : Int)) < (((l1).length : Int)))) : Option ((Bool))) = some _ := hm
  replace hq := someE hq
  subst hq
  refine eX_ret (vs := [.bool (decide ((((l0).length : Int)) < (((l1).length : Int))))]) [.tmp 4] (by rfl) ⟨by (show lkE _ _ _ = _); kernel_rfl, trivial⟩ ?_
  exact ⟨rfl, hB⟩

set_option maxRecDepth 100000 in
/-- spec.l05Pairs -/
theorem c_spec_l05Pairs_ids {w0 : World} {ra : Nat → Option Addr} {rw : Nat → List Int} {rc : Nat → Nat} {fph : List Nat} {l0 : List (Nat)} {A0 : Option Addr} {cap0 : Nat} {fp0 : List Nat} {r : (List (Nat))} (hm : m_spec_l05Pairs_ids rw l0 = some r) (FH : HRows w0 fph ra rw) (F0 : Sl 1 (encN ra rw rc) w0 fp0 A0 l0) :
  Calls Try.prog 20 #[.slice A0 (l0).length cap0] w0 fun e w' => ∃ A100 cap100 fp100, e = .returned (.slice A100 (r).length cap100) ∧ Ow 1 (encN ra rw rc) 66 w' fp100 A100 cap100 r ∧ (∀ x ∈ fp100, w0.heap.size ≤ x) ∧ Chg [] w0 w' := by
 have Lh := FH.low
 have L0 := F0.low
 have hB : Chg [] w0 w0 := Chg.refl _ _
 have hZ := Nat.le_refl w0.heap.size
 unfold m_spec_l05Pairs_ids at hm
 refine enterE (N := 48) Try.func20 (by rfl) Try.ntmps20 (by simp) [(0, .slice A0 (l0).length cap0)] (by rfl) (by kernel_rfl) (fun a => ?_)
 refine cW_seq ?_
 refine cW_region ?_
 refine wS_pure 1 [(2, .slice none 0 0)] (by kernel_rfl) ?_
 refine wS_end (by rfl) ?_
 refine eX_then ?_
 refine cW_seq ?_
 refine cW_region ?_
 refine wS_bs0 (α := Nat) (enc := (encN ra rw rc)) (d := 7) (t := 40) (T := 66) (by kernel_rfl) el40 ?_
 intro b1 w1 G1 F1 hc1
 replace FH := FH.chg hc1 Dj.nil
 replace F0 := F0.chg hc1 Dj.nil
 replace hB := hB.inS hc1 inNil
 replace G1 := Nat.le_trans hZ G1
 replace G1 := low1 G1
 replace hZ := Nat.le_trans hZ hc1.size
 refine wS_pure 1 [(3, .slice (some ⟨b1, 0, none⟩) (([] : List (Nat))).length 0)] (by kernel_rfl) ?_
 refine wS_end (by rfl) ?_
 refine eX_then ?_
 refine cW_seq ?_
 refine cW_seq ?_
 refine cW_region ?_
 refine wS_pure 1 [(4, .int .i64 (0))] (by kernel_rfl) ?_
 refine wS_end (by rfl) ?_
 refine eX_then ?_
 obtain ⟨r1, hr1, hm⟩ := bindE hm
 have hm1 := hm
 refine cW_cut (fun a' w' => ∃ l1 : List (Nat), ∃ A1 : Option Addr, ∃ cap1 : Nat, ∃ fp1 : List Nat, l1 = r1 ∧ Fr 48 [(3, .slice A1 (l1).length cap1)] a' ∧ HRows w' fph ra rw ∧ Ow 1 (encN ra rw rc) 66 w' fp1 A1 cap1 l1 ∧ (∀ x ∈ fp1, w0.heap.size ≤ x) ∧ Chg [] w0 w' ∧ w0.heap.size ≤ w'.heap.size) ?_ ?_
 ·refine cW_block ?_
  refine cW_loop _ (fun (s1 : (List (Nat)) × Int) a' w' => ∃ l3 : List (Nat), ∃ A3 : Option Addr, ∃ cap3 : Nat, ∃ fp2 : List Nat, ∃ x1 : Int, (l3, x1) = s1 ∧ Fr 48 [(0, .slice A0 (l0).length cap0), (3, .slice A3 (l3).length cap3), (4, .int .i64 (x1))] a' ∧ HRows w' fph ra rw ∧ Sl 1 (encN ra rw rc) w' fp0 A0 l0 ∧ Ow 1 (encN ra rw rc) 66 w' fp2 A3 cap3 l3 ∧ (∀ x ∈ fp2, w0.heap.size ≤ x) ∧ Chg [] w0 w' ∧ w0.heap.size ≤ w'.heap.size) hr1 (fun hst => ⟨([] : List (Nat)), (some ⟨b1, 0, none⟩), 0, [b1], 0, rfl, Fr.of hst (by kernel_rfl), FH, F0, F1, G1, hB, hZ⟩) ?_
  rintro _ c1 a' w2 ⟨l3, A3, cap3, fp2, x1, rfl, hF1, F2, F3, F4, G2, hB, hZ⟩ hx1
  refine Fr.goOn hF1 (by kernel_rfl) ?_
  have hm := hx1
  unfold m_spec_l05Pairs_ids_s3 at hm
  refine cW_seq ?_
  refine cW_seq ?_
  refine cW_region ?_
  refine wS_pure 4 [(11, .bool (decide (x1 < (((l0).length : Int))))), (10, .int .i64 (((l0).length : Int))), (9, .slice A0 (l0).length cap0), (8, .int .i64 (x1))] (by kernel_rfl) ?_
  refine wS_end (by rfl) ?_
  refine eX_then ?_
  refine cW_cond (t := decide (x1 < (((l0).length : Int)))) (by kernel_rfl) (fun hb1 => ?_) (fun hb1 => ?_)
  ·have hm := condT hb1 hm
   refine cW_skip ?_
   refine eX_then ?_
   refine cW_seq ?_
   refine cW_block ?_
   refine cW_seq ?_
   refine cW_region ?_
   refine wS_pure 1 [(5, .int .i64 (0))] (by kernel_rfl) ?_
   refine wS_end (by rfl) ?_
   refine eX_then ?_
   refine cW_seq ?_
   obtain ⟨r2, hr2, hm⟩ := bindE hm
   have hm2 := hm
   refine cW_cut (fun a' w' => ∃ x2 : Int, x2 = r2 ∧ Fr 48 [(0, .slice A0 (l0).length cap0), (3, .slice A3 (l3).length cap3), (4, .int .i64 (x1)), (5, .int .i64 (x2))] a' ∧ HRows w' fph ra rw ∧ Sl 1 (encN ra rw rc) w' fp0 A0 l0 ∧ Ow 1 (encN ra rw rc) 66 w' fp2 A3 cap3 l3 ∧ Chg [] w0 w' ∧ w0.heap.size ≤ w'.heap.size) ?_ ?_
   ·refine cW_block ?_
    refine cW_loop _ (fun (s2 : Int) a' w' => ∃ x3 : Int, x3 = s2 ∧ Fr 48 [(0, .slice A0 (l0).length cap0), (3, .slice A3 (l3).length cap3), (4, .int .i64 (x1)), (5, .int .i64 (x3))] a' ∧ HRows w' fph ra rw ∧ Sl 1 (encN ra rw rc) w' fp0 A0 l0 ∧ Ow 1 (encN ra rw rc) 66 w' fp2 A3 cap3 l3 ∧ Chg [] w0 w' ∧ w0.heap.size ≤ w'.heap.size) hr2 (fun hst => ⟨0, rfl, Fr.of hst (by kernel_rfl), F2, F3, F4, hB, hZ⟩) ?_
    rintro _ c2 a' w3 ⟨x3, rfl, hF2, F5, F6, F7, hB, hZ⟩ hx2
    refine Fr.goOn hF2 (by kernel_rfl) ?_
    have hm := hx2
    unfold m_spec_l05Pairs_ids_s4 at hm
    refine cW_seq ?_
    refine cW_seq ?_
    refine cW_drawnTail [] 13 (by kernel_rfl) (by kernel_rfl) (fun w4 hc2 => ?_)
    replace F5 := F5.chg hc2 Dj.nil
    replace F6 := F6.chg hc2 Dj.nil
    replace F7 := F7.chg hc2 Dj.nil
    replace hB := hB.inS hc2 inNil
    replace hZ := Nat.le_trans hZ hc2.size
    have hS := Chg.refl [] w4
    have Z1 := F5
    have Z2 := F6
    have Z3 := F7
    refine wH_take [0, 1, 2, 3, 4] [4, 3, 2, 1, 0] [(18, .bool (decide (x3 < (((l3).length : Int))))), (17, .bool (decide (x3 < (((l3).length : Int))))), (16, .int .i64 (((l3).length : Int))), (15, .slice A3 (l3).length cap3), (14, .int .i64 (x3))] (by kernel_rfl) (qT (qT (qT (qL (qB (qT (qT (qB (qT (qL (qB (qT (qT qZ))))))))))))) (by kernel_rfl) ?_
    refine wH_bool (decide (x3 < (((l3).length : Int)))) (fun hb2 => ?_) (fun hb2 => ?_)
    ·have hm := condT hb2 hm
     rewrite [hb2]
     refine wH_take [5, 6] [6, 5, 4, 3, 2, 1, 0] [(20, .int .i64 (x3)), (19, .slice A3 (l3).length cap3)] (by kernel_rfl) (qT (qT (qT (qL (qB (qT (qT (qB (qT (qL (qB (qT (qT qZ))))))))))))) (by kernel_rfl) ?_
     obtain ⟨x4, hx3, hm⟩ := bindE hm
     refine wH_idx (i := 7) (d := 21) (T := 40) (A := A3) (n := (l3).length) (cap := cap3) (kd := .i64) (m := x3) (by kernel_rfl) (qT (qT (qT (qL (qB (qT (qT (qB (qT (qL (qB (qT (qT qZ))))))))))))) (by kernel_rfl) (by kernel_rfl) sl40 ((F7.sl encN_ok).is hx3) ?_
     refine wH_load1 (i := 8) (d := 22) (T := 66) (ad := (elA A3 1 (x3) 0)) (v := .slice (ra x4) (rw x4).length (rc x4)) (by kernel_rfl) (qT (qT (qT (qL (qB (qT (qT (qB (qT (qL (qB (qT (qT qZ))))))))))))) (by kernel_rfl) (by kernel_rfl) vt66 (fun W hW => Sl.cell ((Z3.chg hW Dj.nil).sl encN_ok) hx3 0 (by rfl)) ?_
     refine wH_take [9, 10] [10, 9, 8, 7, 6, 5, 4, 3, 2, 1, 0] [(24, .int .i64 (x1)), (23, .slice A0 (l0).length cap0)] (by kernel_rfl) (qT (qT (qT (qL (qB (qT (qT (qB (qT (qL (qB (qT (qT qZ))))))))))))) (by kernel_rfl) ?_
     obtain ⟨x5, hx4, hm⟩ := bindE hm
     refine wH_idx (i := 11) (d := 25) (T := 40) (A := A0) (n := (l0).length) (cap := cap0) (kd := .i64) (m := x1) (by kernel_rfl) (qT (qT (qT (qL (qB (qT (qT (qB (qT (qL (qB (qT (qT qZ))))))))))))) (by kernel_rfl) (by kernel_rfl) sl40 (F6.is hx4) ?_
     refine wH_load1 (i := 12) (d := 26) (T := 66) (ad := (elA A0 1 (x1) 0)) (v := .slice (ra x5) (rw x5).length (rc x5)) (by kernel_rfl) (qT (qT (qT (qL (qB (qT (qT (qB (qT (qL (qB (qT (qT qZ))))))))))))) (by kernel_rfl) (by kernel_rfl) vt66 (fun W hW => Sl.cell (Z2.chg hW Dj.nil) hx4 0 (by rfl)) ?_
     refine wH_done (by kernel_rfl) ?_
     refine eX_tail ?_
     obtain ⟨y1, hy1, hm⟩ := bindE hm
     refine wS_calls (d := 27) (f := 38) (vs := [.slice (ra x4) (rw x4).length (rc x4), .slice (ra x5) (rw x5).length (rc x5)]) (by kernel_rfl) ent38 (c_spec_l03Less hy1 (F5.row x4) (F5.row x5)) ?_
     rintro _ w5 ⟨rfl, hc3⟩
     replace F5 := F5.chg hc3 Dj.nil
     replace F6 := F6.chg hc3 Dj.nil
     replace F7 := F7.chg hc3 Dj.nil
     replace hB := hB.inS hc3 inNil
     replace hZ := Nat.le_trans hZ hc3.size
     refine ⟨.bool (y1), rfl, ?_⟩
     refine wS_pure 1 [(28, .bool (y1))] (by kernel_rfl) ?_
     refine wS_end (by rfl) ?_
     refine eX_then ?_
     refine cW_cond (t := y1) (by kernel_rfl) (fun hb3 => ?_) (fun hb3 => ?_)
     ·have hm := condT hb3 hm
      refine cW_skip ?_
      refine eX_then ?_
      refine cW_block ?_
      refine cW_region ?_
      refine wS_pure 3 [(5, .int .i64 (wr (x3 + 1))), (30, .int .i64 (wr (x3 + 1))), (29, .int .i64 (x3))] (by kernel_rfl) ?_
      refine wS_end (by rfl) ?_
      refine eX_block ?_
      have hq : (some (Ctl.next (wr (x3 + 1))) : Option (Ctl (Int) (Int))) = some _ := hm
      replace hq := someE hq
      subst hq
      exact eX_next hx2 (fun hst => ⟨wr (x3 + 1), rfl, Fr.of hst (by kernel_rfl), F5, F6, F7, hB, hZ⟩)
     ·have hm := condF hb3 hm
      refine cW_exit ?_
      refine eX_then_exit ?_
      have hq : (some (Ctl.out x3) : Option (Ctl (Int) (Int))) = some _ := hm
      replace hq := someE hq
      subst hq
      refine eX_outX hx2 (fun hr3 => ?_)
      replace hr3 := hr3.symm
      subst hr3
      refine eX_block_hit ?_
      exact eX_J (fun hst => ⟨x3, rfl, Fr.of hst (by kernel_rfl), F5, F6, F7, hB, hZ⟩)
    ·have hm := condF hb2 hm
     rewrite [hb2]
     refine wH_take [5, 6, 7, 8, 9, 10, 11, 12] [12, 11, 10, 9, 8, 7, 6, 5, 4, 3, 2, 1, 0] [(26, undef), (25, undef), (24, undef), (23, undef), (22, undef), (21, undef), (20, undef), (19, undef)] (by kernel_rfl) (qT (qT (qT (qL (qB (qT (qT (qB (qT (qL (qB (qT (qT qZ))))))))))))) (by kernel_rfl) ?_
     refine wH_done (by kernel_rfl) ?_
     refine eX_tail ?_
     refine wS_pure 2 [(28, .bool (false)), (27, undef)] (by kernel_rfl) ?_
     refine wS_end (by rfl) ?_
     refine eX_then ?_
     refine cW_cond_f (by kernel_rfl) ?_
     refine cW_exit ?_
     refine eX_then_exit ?_
     have hq : (some (Ctl.out x3) : Option (Ctl (Int) (Int))) = some _ := hm
     replace hq := someE hq
     subst hq
     refine eX_outX hx2 (fun hr4 => ?_)
     replace hr4 := hr4.symm
     subst hr4
     refine eX_block_hit ?_
     exact eX_J (fun hst => ⟨x3, rfl, Fr.of hst (by kernel_rfl), F5, F6, F7, hB, hZ⟩)
   ·rintro a' w6 ⟨x2, hJ, hF3, F8, F9, F10, hB, hZ⟩
    subst hJ
    refine Fr.goX hF3 (by kernel_rfl) ?_
    refine eX_then ?_
    refine cW_seq ?_
    refine cW_region ?_
    refine wS_bs0 (α := Nat) (enc := (encN ra rw rc)) (d := 31) (t := 40) (T := 66) (by kernel_rfl) el40 ?_
    intro b2 w7 G3 F11 hc4
    have D1 : Dj fp2 [b2] := Dj.of F10.low (low1 G3)
    replace F8 := F8.chg hc4 Dj.nil
    replace F9 := F9.chg hc4 Dj.nil
    replace F10 := F10.chg hc4 Dj.nil
    replace hB := hB.inS hc4 inNil
    replace G3 := Nat.le_trans hZ G3
    replace G3 := low1 G3
    replace hZ := Nat.le_trans hZ hc4.size
    refine wS_pure 2 [(33, .int .i64 (x2)), (32, .slice A3 (l3).length cap3)] (by kernel_rfl) ?_
    obtain ⟨y2, hy2, hm⟩ := bindE hm
    refine wS_cutA (enc := (encN ra rw rc)) (l := l3) (d := 34) (T := 40) (A := A3) (cap := cap3) (vlo := some (.int .i64 (x2))) (vhi := none) (lo := x2) (hi := ((l3).length : Int)) (n := 0) (by kernel_rfl) sl40 (Or.inl rfl) (Or.inr ⟨rfl, rfl⟩) (F10.sl encN_ok) F10.cap_le hy2 ?_
    intro A4 cap4 hA1 F12 hcap1
    obtain rfl := slci_slc hy2
    have hlv1 := Eq.refl (l3).length
    have hcz1 := F10.cap_le
    obtain ⟨_, hk1, hm⟩ := bindE hm
    replace hk1 := apE hk1
    refine wS_appendAny (enc := (encN ra rw rc)) (l := (([] : List (Nat)) : List (Nat))) (l2 := (slc l3 x2 (((l3).length : Int)) : List (Nat))) (d := 35) (t := 40) (T := 66) (A := (some ⟨b2, 0, none⟩)) (A2 := A4) (cap := 0) (cap2 := cap4) (by kernel_rfl) el40 encN_ok F11 F12 hk1 ?_
    intro w8 fp3 A5 cap5 F13 hc5 hp1
    have G4 := low_ap G3 hZ hp1
    have D2 : Dj fp2 fp3 := Dj.ap D1 F10.low hp1
    have D3 : Dj fp2 fp3 := Dj.ap D1 F12.low hp1
    replace F8 := F8.chg hc5 (Dj.of Lh G3)
    replace F9 := F9.chg hc5 (Dj.of L0 G3)
    replace F10 := F10.chg hc5 D1
    replace F12 := F12.chg hc5 D1
    replace hB := hB.inS hc5 (inLow G3)
    replace hZ := Nat.le_trans hZ hc5.size
    refine wS_pure 1 [(6, .slice A5 ((([] : List (Nat))) ++ (slc l3 x2 (((l3).length : Int)))).length cap5)] (by kernel_rfl) ?_
    refine wS_end (by rfl) ?_
    refine eX_then ?_
    refine cW_drawnTail fp2 10 (by kernel_rfl) (by kernel_rfl) (fun w9 hc6 => ?_)
    replace F8 := F8.chg hc6 Dj.nil
    replace F9 := F9.chg hc6 Dj.nil
    replace F10 := F10.chg hc6 Dj.nil
    replace F12 := F12.chg hc6 Dj.nil
    replace F13 := F13.chg hc6 Dj.nil
    replace hB := hB.inS hc6 inNil
    replace hZ := Nat.le_trans hZ hc6.size
    have hS := Chg.refl fp2 w9
    have Z4 := F8
    have Z5 := F9
    have Z6 := F10
    have Z7 := F12
    have Z8 := F13
    refine wH_take [0, 1] [1, 0] [(37, .int .i64 (x2)), (36, .slice A3 (l3).length cap3)] (by kernel_rfl) (qT (qB (qT (qL (qB (qT (qT qZ))))))) (by kernel_rfl) ?_
    obtain ⟨y3, hy3, hm⟩ := bindE hm
    refine wH_prefix (k := 1) (enc := (encN ra rw rc)) (l := l3) (i := 2) (d := 38) (T := 40) (A := A3) (cap := cap3) (hi := x2) (by kernel_rfl) (qT (qB (qT (qL (qB (qT (qT qZ))))))) (by kernel_rfl) (by kernel_rfl) sl40 encN_ok F10.cap_le hy3 ?_
    intro hpe hpf1
    subst hpe
    have F14 := hpf1 _ _ _ F10
    have Fz1 := hpf1 _ _ _ Z6
    refine wH_take [3, 4] [4, 3, 2, 1, 0] [(40, .int .i64 (x1)), (39, .slice A0 (l0).length cap0)] (by kernel_rfl) (qT (qB (qT (qL (qB (qT (qT qZ))))))) (by kernel_rfl) ?_
    obtain ⟨x6, hx5, hm⟩ := bindE hm
    refine wH_idx (i := 5) (d := 41) (T := 40) (A := A0) (n := (l0).length) (cap := cap0) (kd := .i64) (m := x1) (by kernel_rfl) (qT (qB (qT (qL (qB (qT (qT qZ))))))) (by kernel_rfl) (by kernel_rfl) sl40 (F9.is hx5) ?_
    refine wH_load1 (i := 6) (d := 42) (T := 66) (ad := (elA A0 1 (x1) 0)) (v := .slice (ra x6) (rw x6).length (rc x6)) (by kernel_rfl) (qT (qB (qT (qL (qB (qT (qT qZ))))))) (by kernel_rfl) (by kernel_rfl) vt66 (fun W hW => Sl.cell (Z5.chg hW (Dj.of L0 G2)) hx5 0 (by rfl)) ?_
    refine wH_take [9] [9, 6, 5, 4, 3, 2, 1, 0] [(45, .slice A5 ((([] : List (Nat))) ++ (slc l3 x2 (((l3).length : Int)))).length cap5)] (by kernel_rfl) (qT (qB (qT (qL (qB (qT (qT qZ))))))) (by kernel_rfl) ?_
    refine wH_all [7] (by rfl) (by kernel_rfl) (by simp) ⟨⟨by kernel_rfl, ?_⟩, trivial⟩
    refine wS_bs (enc := (encN ra rw rc)) ([x6] : List (Nat)) [.slice (ra x6) (rw x6).length (rc x6)] (d := 43) (t := 40) (T := 66) (n := 1) (ps := [(0, .slice (ra x6) (rw x6).length (rc x6))]) (by kernel_rfl) el40 encN_ok (by rfl) (by omega) (by omega) (by kernel_rfl) (by rfl) ?_
    intro b3 w10 G5 F15 hc7
    have D4 : Dj fp2 [b3] := Dj.of F14.low (low1 G5)
    have D5 : Dj fp3 [b3] := Dj.of F13.low (low1 G5)
    replace F8 := F8.chg hc7 Dj.nil
    replace F9 := F9.chg hc7 Dj.nil
    replace F14 := F14.chg hc7 Dj.nil
    replace F13 := F13.chg hc7 Dj.nil
    replace hB := hB.inS hc7 inNil
    have hSz := hS
    replace hS := hS.inS hc7 inNil
    have Gz1 := low1 (Nat.le_trans hSz.size G5)
    replace G5 := Nat.le_trans hZ G5
    replace G5 := low1 G5
    replace hZ := Nat.le_trans hZ hc7.size
    refine wS_end (by kernel_rfl) ?_
    refine eX_KH hS ?_
    refine wH_all [8] (by rfl) (by kernel_rfl) (by simp) ⟨⟨by kernel_rfl, ?_⟩, trivial⟩
    obtain ⟨_, hk2, hm⟩ := bindE hm
    replace hk2 := apE hk2
    refine wS_append (enc := (encN ra rw rc)) (l := (l3.take (Int.toNat x2) : List (Nat))) (l2 := (([x6] : List (Nat)) : List (Nat))) (d := 44) (t := 40) (T := 66) (A := A3) (A2 := (some ⟨b3, 0, none⟩)) (cap := cap3) (cap2 := 1) (by kernel_rfl) el40 encN_ok F14 (F15.sl encN_ok) (by rfl) hk2 ?_
    intro w11 fp4 A6 cap6 F16 hc8 hp2
    have G6 := low_ap G2 hZ hp2
    have D6 : Dj fp3 fp4 := Dj.ap (D2).symm F13.low hp2
    have D7 : Dj [b3] fp4 := Dj.ap (D4).symm F15.low hp2
    replace F8 := F8.chg hc8 (Dj.of Lh G2)
    replace F9 := F9.chg hc8 (Dj.of L0 G2)
    replace F13 := F13.chg hc8 (D2).symm
    replace F15 := F15.chg hc8 (D4).symm
    replace hB := hB.inS hc8 (inLow G2)
    have hSz := hS
    replace hS := hS.trans hc8
    have Sn1 := sin_ap (Sg := fp2) (inMem (fun x hx => hx)) hSz.size hp2
    replace hZ := Nat.le_trans hZ hc8.size
    refine wS_end (by kernel_rfl) ?_
    refine eX_KH hS ?_
    refine wH_done (by kernel_rfl) ?_
    refine eX_tail ?_
    obtain ⟨_, hk3, hm⟩ := bindE hm
    replace hk3 := apE hk3
    refine wS_appendAny (enc := (encN ra rw rc)) (l := ((l3.take (Int.toNat x2)) ++ (([x6] : List (Nat))) : List (Nat))) (l2 := ((([] : List (Nat))) ++ (slc l3 x2 (((l3).length : Int))) : List (Nat))) (d := 46) (t := 40) (T := 66) (A := A6) (A2 := A5) (cap := cap6) (cap2 := cap5) (by kernel_rfl) el40 encN_ok F16 (F13.sl encN_ok) hk3 ?_
    intro w12 fp5 A7 cap7 F17 hc9 hp3
    have G7 := low_ap G6 hZ hp3
    have D8 : Dj fp3 fp5 := Dj.ap D6 F13.low hp3
    have D9 : Dj [b3] fp5 := Dj.ap D7 F15.low hp3
    replace F8 := F8.chg hc9 (Dj.of Lh G6)
    replace F9 := F9.chg hc9 (Dj.of L0 G6)
    replace F13 := F13.chg hc9 D6
    replace F15 := F15.chg hc9 D7
    replace hB := hB.inS hc9 (inLow G6)
    replace hZ := Nat.le_trans hZ hc9.size
    refine wS_pure 1 [(3, .slice A7 (((l3.take (Int.toNat x2)) ++ (([x6] : List (Nat)))) ++ ((([] : List (Nat))) ++ (slc l3 x2 (((l3).length : Int))))).length cap7)] (by kernel_rfl) ?_
    refine wS_end (by rfl) ?_
    refine eX_block ?_
    refine eX_then ?_
    refine cW_region ?_
    refine wS_pure 3 [(4, .int .i64 (wr (x1 + 1))), (13, .int .i64 (wr (x1 + 1))), (12, .int .i64 (x1))] (by kernel_rfl) ?_
    refine wS_end (by rfl) ?_
    have hq : (some (Ctl.next ((((l3.take (Int.toNat x2)) ++ (([x6] : List (Nat)))) ++ ((([] : List (Nat))) ++ (slc l3 x2 (((l3).length : Int)))), wr (x1 + 1)))) : Option (Ctl ((List (Nat)) × Int) ((List (Nat))))) = some _ := hm
    replace hq := someE hq
    subst hq
    exact eX_next hx1 (fun hst => ⟨((l3.take (Int.toNat x2)) ++ (([x6] : List (Nat)))) ++ ((([] : List (Nat))) ++ (slc l3 x2 (((l3).length : Int)))), A7, cap7, fp5, wr (x1 + 1), rfl, Fr.of hst (by kernel_rfl), F8, F9, F17, G7, hB, hZ⟩)
  ·have hm := condF hb1 hm
   refine cW_exit ?_
   refine eX_then_exit ?_
   have hq : (some (Ctl.out l3) : Option (Ctl ((List (Nat)) × Int) ((List (Nat))))) = some _ := hm
   replace hq := someE hq
   subst hq
   refine eX_outX hx1 (fun hr5 => ?_)
   replace hr5 := hr5.symm
   subst hr5
   refine eX_block_hit ?_
   exact eX_J (fun hst => ⟨l3, A3, cap3, fp2, rfl, Fr.of hst (by kernel_rfl), F2, F4, G2, hB, hZ⟩)
 ·rintro a' w13 ⟨l1, A1, cap1, fp1, hJ, hF4, F18, F19, G8, hB, hZ⟩
  subst hJ
  refine Fr.goX hF4 (by kernel_rfl) ?_
  refine eX_then ?_
  refine cW_seq ?_
  refine cW_region ?_
  refine wS_pure 2 [(2, .slice A1 (l1).length cap1), (47, .slice A1 (l1).length cap1)] (by kernel_rfl) ?_
  refine wS_end (by rfl) ?_
  refine eX_then ?_
  refine cW_ret ?_
  have hq : (some l1 : Option ((List (Nat)))) = some _ := hm
  replace hq := someE hq
  subst hq
  refine eX_ret (vs := [.slice A1 (l1).length cap1]) [.tmp 2] (by rfl) ⟨by (show lkE _ _ _ = _); kernel_rfl, trivial⟩ ?_
  exact ⟨A1, cap1, fp1, rfl, F19, G8, hB⟩

theorem c_spec_l05Pairs {w0 : World} {l0 : List (List (Int))} {A0 : Option Addr} {cap0 : Nat} {fp0 fr0 : List Nat} {r : List (List (Int))} (hm : m_spec_l05Pairs l0 = some r) (F0 : OwR 1 encI 66 2 w0 fp0 fr0 A0 cap0 l0) :
    Calls Try.prog 20 #[.slice A0 (l0).length cap0] w0 fun e w' => ∃ A100 cap100 fp100, e = .returned (.slice A100 (r).length cap100) ∧ OwR 1 encI 66 2 w' fp100 fr0 A100 cap100 r ∧ (∀ x ∈ fp100, w0.heap.size ≤ x) ∧ Chg [] w0 w' := by
  unfold m_spec_l05Pairs at hm
  obtain ⟨q, hq, hm⟩ := bindE hm
  obtain ⟨_, hc, hm⟩ := bindE hm
  replace hc := of_decide_eq_true (chkE hc)
  replace hm := someE hm
  subst hm
  obtain ⟨ra, rc, h1, h2, h3⟩ := OwR.ids F0
  have h := c_spec_l05Pairs_ids (cap0 := cap0) hq h2 h1
  rw [List.length_range] at h
  refine h.mono ?_
  rintro e w' ⟨A, cap, fp, rfl, g1, g2, g3⟩
  exact ⟨A, cap, fp, by rw [List.length_map], h3 _ _ _ _ _ g3 g2 g1 hc, g2, g3⟩

set_option maxRecDepth 100000 in
/-- spec.l01Sign -/
theorem c_spec_l01Sign {w0 : World} {p0 : Int} {r : (Int)} (hm : m_spec_l01Sign p0 = some r)  :
  Calls Try.prog 56 #[.int .i64 (p0)] w0 fun e w' => e = .returned (.int .i64 (r)) ∧ Chg [] w0 w' := by
 have hB : Chg [] w0 w0 := Chg.refl _ _
 have hZ := Nat.le_refl w0.heap.size
 unfold m_spec_l01Sign at hm
 refine enterE (N := 7) Try.func56 (by rfl) Try.ntmps56 (by simp) [(0, .int .i64 (p0))] (by rfl) (by kernel_rfl) (fun a => ?_)
 refine cW_seq ?_
 refine cW_region ?_
 refine wS_pure 1 [(2, .int .i64 (0))] (by kernel_rfl) ?_
 refine wS_end (by rfl) ?_
 refine eX_then ?_
 refine cW_seq ?_
 refine cW_seq ?_
 refine cW_region ?_
 refine wS_pure 2 [(4, .bool (decide (p0 < 0))), (3, .int .i64 (p0))] (by kernel_rfl) ?_
 refine wS_end (by rfl) ?_
 refine eX_then ?_
 refine cW_cond (t := decide (p0 < 0)) (by kernel_rfl) (fun hb1 => ?_) (fun hb1 => ?_)
 ·have hm := condT hb1 hm
  refine cW_seq ?_
  refine cW_region ?_
  refine wS_pure 1 [(2, .int .i64 ((-1)))] (by kernel_rfl) ?_
  refine wS_end (by rfl) ?_
  refine eX_then ?_
  refine cW_ret ?_
  refine eX_then_ret ?_
  have hq : (some ((-1)) : Option ((Int))) = some _ := hm
  replace hq := someE hq
  subst hq
  refine eX_ret (vs := [.int .i64 ((-1))]) [.tmp 2] (by rfl) ⟨by (show lkE _ _ _ = _); kernel_rfl, trivial⟩ ?_
  exact ⟨rfl, hB⟩
 ·have hm := condF hb1 hm
  refine cW_skip ?_
  refine eX_then ?_
  refine cW_seq ?_
  refine cW_seq ?_
  refine cW_region ?_
  refine wS_pure 2 [(6, .bool (decide (p0 > 0))), (5, .int .i64 (p0))] (by kernel_rfl) ?_
  refine wS_end (by rfl) ?_
  refine eX_then ?_
  refine cW_cond (t := decide (p0 > 0)) (by kernel_rfl) (fun hb2 => ?_) (fun hb2 => ?_)
  ·have hm := condT hb2 hm
   refine cW_seq ?_
   refine cW_region ?_
   refine wS_pure 1 [(2, .int .i64 (1))] (by kernel_rfl) ?_
   refine wS_end (by rfl) ?_
   refine eX_then ?_
   refine cW_ret ?_
   refine eX_then_ret ?_
   have hq : (some 1 : Option ((Int))) = some _ := hm
   replace hq := someE hq
   subst hq
   refine eX_ret (vs := [.int .i64 (1)]) [.tmp 2] (by rfl) ⟨by (show lkE _ _ _ = _); kernel_rfl, trivial⟩ ?_
   exact ⟨rfl, hB⟩
  ·have hm := condF hb2 hm
   refine cW_skip ?_
   refine eX_then ?_
   refine cW_seq ?_
   refine cW_region ?_
   refine wS_pure 1 [(2, .int .i64 (0))] (by kernel_rfl) ?_
   refine wS_end (by rfl) ?_
   refine eX_then ?_
   refine cW_ret ?_
   have hq : (some 0 : Option ((Int))) = some _ := hm
   replace hq := someE hq
   subst hq
   refine eX_ret (vs := [.int .i64 (0)]) [.tmp 2] (by rfl) ⟨by (show lkE _ _ _ = _); kernel_rfl, trivial⟩ ?_
   exact ⟨rfl, hB⟩

set_option maxRecDepth 100000 in
/-- spec.l05Steps -/
theorem c_spec_l05Steps {w0 : World} {p0_0 : Int} {p0_1 : Int} {p1_0 : Int} {p1_1 : Int} {p2 : Bool} {r : (List (Int × Int))} (hm : m_spec_l05Steps p0_0 p0_1 p1_0 p1_1 p2 = some r)  :
  Calls Try.prog 39 #[.agg #[.int .i64 (p0_0), .int .i64 (p0_1)], .agg #[.int .i64 (p1_0), .int .i64 (p1_1)], .bool (p2)] w0 fun e w' => ∃ A100 cap100 fp100, e = .returned (.slice A100 (r).length cap100) ∧ Ow 2 encII 34 w' fp100 A100 cap100 r ∧ (∀ x ∈ fp100, w0.heap.size ≤ x) ∧ Chg [] w0 w' := by
 have hB : Chg [] w0 w0 := Chg.refl _ _
 have hZ := Nat.le_refl w0.heap.size
 unfold m_spec_l05Steps at hm
 refine enterE (N := 78) Try.func39 (by rfl) Try.ntmps39 (by simp) [(0, .agg #[.int .i64 (p0_0), .int .i64 (p0_1)]), (1, .agg #[.int .i64 (p1_0), .int .i64 (p1_1)]), (2, .bool (p2))] (by rfl) (by kernel_rfl) (fun a => ?_)
 refine cW_seq ?_
 refine cW_region ?_
 refine wS_box (d := 3) (T := 34) (x := .agg #[.int .i64 (p0_0), .int .i64 (p0_1)]) (by kernel_rfl) ?_
 intro b1 w1 G1 F1 hc1
 replace F1 : Cl w1 b1 34 [.int .i64 (p0_0), .int .i64 (p0_1)] := F1
 replace hB := hB.inS hc1 inNil
 replace G1 := Nat.le_trans hZ G1
 replace hZ := Nat.le_trans hZ hc1.size
 refine wS_box (d := 4) (T := 34) (x := .agg #[.int .i64 (p1_0), .int .i64 (p1_1)]) (by kernel_rfl) ?_
 intro b2 w2 G2 F2 hc2
 replace F2 : Cl w2 b2 34 [.int .i64 (p1_0), .int .i64 (p1_1)] := F2
 have D1 : Dj [b1] [b2] := Dj.of (lt1 F1.lt) (low1 G2)
 replace F1 := F1.chg hc2 notNil
 replace hB := hB.inS hc2 inNil
 replace G2 := Nat.le_trans hZ G2
 replace hZ := Nat.le_trans hZ hc2.size
 refine wS_pure 1 [(6, .slice none 0 0)] (by kernel_rfl) ?_
 refine wS_end (by rfl) ?_
 refine eX_then ?_
 refine cW_seq ?_
 refine cW_region ?_
 refine wS_bs0 (α := Int × Int) (enc := encII) (d := 12) (t := 26) (T := 34) (by kernel_rfl) el26 ?_
 intro b3 w3 G3 F3 hc3
 have D2 : Dj [b1] [b3] := Dj.of (lt1 F1.lt) (low1 G3)
 have D3 : Dj [b2] [b3] := Dj.of (lt1 F2.lt) (low1 G3)
 replace F1 := F1.chg hc3 notNil
 replace F2 := F2.chg hc3 notNil
 replace hB := hB.inS hc3 inNil
 replace G3 := Nat.le_trans hZ G3
 replace G3 := low1 G3
 replace hZ := Nat.le_trans hZ hc3.size
 refine wS_pure 1 [(7, .slice (some ⟨b3, 0, none⟩) (([] : List (Int × Int))).length 0)] (by kernel_rfl) ?_
 refine wS_end (by rfl) ?_
 refine eX_then ?_
 refine cW_seq ?_
 refine cW_region ?_
 refine wS_pure 1 [(13, .pointer (some ⟨b1, 0, none⟩))] (by kernel_rfl) ?_
 refine wS_load1 (d := 14) (T := 2) (ad := ⟨b1, 0, none⟩) (v := .int .i64 (p0_0)) (by kernel_rfl) vt2 ((F1).cell 0) ?_
 refine wS_pure 1 [(15, .pointer (some ⟨b2, 1, none⟩))] (by kernel_rfl) ?_
 refine wS_load1 (d := 16) (T := 2) (ad := ⟨b2, 1, none⟩) (v := .int .i64 (p1_1)) (by kernel_rfl) vt2 ((F2).cell 1) ?_
 refine wS_pure 1 [(17, .agg #[.int .i64 (p0_0), .int .i64 (p1_1)])] (by kernel_rfl) ?_
 refine wS_alloc (d := 8) (T := 34) (z := .agg #[.int .i64 (0), .int .i64 (0)]) (by kernel_rfl) (by kernel_rfl) ?_
 intro b4 w4 G4 F4 hc4
 replace F4 : Cl w4 b4 34 [.int .i64 (0), .int .i64 (0)] := F4
 have D4 : Dj [b1] [b4] := Dj.of (lt1 F1.lt) (low1 G4)
 have D5 : Dj [b2] [b4] := Dj.of (lt1 F2.lt) (low1 G4)
 have D6 : Dj [b3] [b4] := Dj.of F3.low (low1 G4)
 replace F1 := F1.chg hc4 notNil
 replace F2 := F2.chg hc4 notNil
 replace F3 := F3.chg hc4 Dj.nil
 replace hB := hB.inS hc4 inNil
 replace G4 := Nat.le_trans hZ G4
 replace hZ := Nat.le_trans hZ hc4.size
 refine wS_store (T := 34) (g := b4) (o := 0) (ad := ⟨b4, 0, none⟩) (v := .agg #[.int .i64 (p0_0), .int .i64 (p1_1)]) (vs := [.int .i64 (p0_0), .int .i64 (p1_1)]) (by kernel_rfl) (by rfl) sz34 (by rfl) (by rfl) F4 (by simp only [List.length_cons, List.length_nil]; omega) ?_
 intro w5 F5 hc5
 replace F1 := F1.chg hc5 (dj1 D4)
 replace F2 := F2.chg hc5 (dj1 D5)
 replace F3 := F3.chg hc5 D6
 replace hB := hB.inS hc5 (inLow (low1 G4))
 replace hZ := Nat.le_trans hZ hc5.size
 replace F5 : Cl w5 b4 34 [.int .i64 (p0_0), .int .i64 (p1_1)] := F5
 clear F4
 refine wS_end (by rfl) ?_
 refine eX_then ?_
 refine cW_seq ?_
 obtain ⟨s1, hs1, hm⟩ := bindE hm
 refine cW_cut (fun a' w' => ∃ x1 : Int, ∃ x2 : Int, (x1, x2) = s1 ∧ Fr 78 [(3, .pointer (some ⟨b1, 0, none⟩)), (4, .pointer (some ⟨b2, 0, none⟩)), (7, .slice (some ⟨b3, 0, none⟩) (([] : List (Int × Int))).length 0), (8, .pointer (some ⟨b4, 0, none⟩))] a' ∧ Cl w' b1 34 [.int .i64 (p0_0), .int .i64 (p0_1)] ∧ Cl w' b2 34 [.int .i64 (p1_0), .int .i64 (p1_1)] ∧ Ow 2 encII 34 w' [b3] (some ⟨b3, 0, none⟩) 0 (([] : List (Int × Int))) ∧ Cl w' b4 34 [.int .i64 (x1), .int .i64 (x2)] ∧ Chg [] w0 w' ∧ w0.heap.size ≤ w'.heap.size) ?_ ?_
 ·have hm := hs1
  refine cW_seq ?_
  refine cW_region ?_
  refine wS_pure 1 [(18, .bool (p2))] (by kernel_rfl) ?_
  refine wS_end (by rfl) ?_
  refine eX_then ?_
  refine cW_cond (t := p2) (by kernel_rfl) (fun hb1 => ?_) (fun hb1 => ?_)
  ·have hm := condT hb1 hm
   refine cW_region ?_
   refine wS_pure 1 [(19, .pointer (some ⟨b2, 0, none⟩))] (by kernel_rfl) ?_
   refine wS_load1 (d := 20) (T := 2) (ad := ⟨b2, 0, none⟩) (v := .int .i64 (p1_0)) (by kernel_rfl) vt2 ((F2).cell 0) ?_
   refine wS_pure 1 [(21, .pointer (some ⟨b1, 1, none⟩))] (by kernel_rfl) ?_
   refine wS_load1 (d := 22) (T := 2) (ad := ⟨b1, 1, none⟩) (v := .int .i64 (p0_1)) (by kernel_rfl) vt2 ((F1).cell 1) ?_
   refine wS_pure 1 [(23, .agg #[.int .i64 (p1_0), .int .i64 (p0_1)])] (by kernel_rfl) ?_
   refine wS_store (T := 34) (g := b4) (o := 0) (ad := ⟨b4, 0, none⟩) (v := .agg #[.int .i64 (p1_0), .int .i64 (p0_1)]) (vs := [.int .i64 (p1_0), .int .i64 (p0_1)]) (by kernel_rfl) (by rfl) sz34 (by rfl) (by rfl) F5 (by simp only [List.length_cons, List.length_nil]; omega) ?_
   intro w6 F6 hc6
   replace F1 := F1.chg hc6 (dj1 D4)
   replace F2 := F2.chg hc6 (dj1 D5)
   replace F3 := F3.chg hc6 D6
   replace hB := hB.inS hc6 (inLow (low1 G4))
   replace hZ := Nat.le_trans hZ hc6.size
   replace F6 : Cl w6 b4 34 [.int .i64 (p1_0), .int .i64 (p0_1)] := F6
   clear F5
   refine wS_end (by rfl) ?_
   have hq : (some ((p1_0, p0_1)) : Option (Int × Int)) = some _ := hm
   replace hq := someE hq
   subst hq
   exact eX_J (fun hst => ⟨p1_0, p0_1, rfl, Fr.of hst (by kernel_rfl), F1, F2, F3, F6, hB, hZ⟩)
  ·have hm := condF hb1 hm
   refine cW_skip ?_
   have hq : (some ((p0_0, p1_1)) : Option (Int × Int)) = some _ := hm
   replace hq := someE hq
   subst hq
   exact eX_J (fun hst => ⟨p0_0, p1_1, rfl, Fr.of hst (by kernel_rfl), F1, F2, F3, F5, hB, hZ⟩)
 ·rintro a' w7 ⟨x1, x2, hJ, hF1, F7, F8, F9, F10, hB, hZ⟩
  subst hJ
  refine Fr.goX hF1 (by kernel_rfl) ?_
  refine eX_then ?_
  refine cW_seq ?_
  refine cW_region ?_
  refine wS_loadA (d := 24) (T := 34) (ad := ⟨b4, 0, none⟩) (vs := [.int .i64 (x1), .int .i64 (x2)]) (by kernel_rfl) vt34 (fun i u hu => box_cells F10 0 hu (by rfl)) ?_
  refine wS_loadA (d := 25) (T := 34) (ad := ⟨b2, 0, none⟩) (vs := [.int .i64 (p1_0), .int .i64 (p1_1)]) (by kernel_rfl) vt34 (fun i u hu => box_cells F8 0 hu (by rfl)) ?_
  refine wS_bs (enc := encII) ([(x1, x2), (p1_0, p1_1)] : List (Int × Int)) [.int .i64 (x1), .int .i64 (x2), .int .i64 (p1_0), .int .i64 (p1_1)] (d := 26) (t := 26) (T := 34) (n := 2) (ps := [(0, .agg #[.int .i64 (x1), .int .i64 (x2)]), (1, .agg #[.int .i64 (p1_0), .int .i64 (p1_1)])]) (by kernel_rfl) el26 encII_ok (by rfl) (by omega) (by omega) (by kernel_rfl) (by rfl) ?_
  intro b5 w8 G5 F11 hc7
  have D7 : Dj [b1] [b5] := Dj.of (lt1 F7.lt) (low1 G5)
  have D8 : Dj [b2] [b5] := Dj.of (lt1 F8.lt) (low1 G5)
  have D9 : Dj [b3] [b5] := Dj.of F9.low (low1 G5)
  have D10 : Dj [b4] [b5] := Dj.of (lt1 F10.lt) (low1 G5)
  replace F7 := F7.chg hc7 notNil
  replace F8 := F8.chg hc7 notNil
  replace F9 := F9.chg hc7 Dj.nil
  replace F10 := F10.chg hc7 notNil
  replace hB := hB.inS hc7 inNil
  replace G5 := Nat.le_trans hZ G5
  replace G5 := low1 G5
  replace hZ := Nat.le_trans hZ hc7.size
  refine wS_pure 1 [(9, .slice (some ⟨b5, 0, none⟩) (([(x1, x2), (p1_0, p1_1)] : List (Int × Int))).length 2)] (by kernel_rfl) ?_
  refine wS_end (by rfl) ?_
  refine eX_then ?_
  refine cW_seq ?_
  refine cW_seq ?_
  refine cW_region ?_
  refine wS_pure 1 [(10, .int .i64 (0))] (by kernel_rfl) ?_
  refine wS_end (by rfl) ?_
  refine eX_then ?_
  obtain ⟨r1, hr1, hm⟩ := bindE hm
  have hm1 := hm
  refine cW_cut (fun a' w' => ∃ l1 : List (Int × Int), ∃ A1 : Option Addr, ∃ cap1 : Nat, ∃ fp1 : List Nat, l1 = r1 ∧ Fr 78 [(7, .slice A1 (l1).length cap1)] a' ∧ Ow 2 encII 34 w' fp1 A1 cap1 l1 ∧ (∀ x ∈ fp1, w0.heap.size ≤ x) ∧ Chg [] w0 w' ∧ w0.heap.size ≤ w'.heap.size) ?_ ?_
  ·refine cW_block ?_
   refine cW_loop _ (fun (s2 : (List (Int × Int)) × Int × Int × Int) a' w' => ∃ l3 : List (Int × Int), ∃ A3 : Option Addr, ∃ cap3 : Nat, ∃ fp2 : List Nat, ∃ x3 : Int, ∃ x4 : Int, ∃ x5 : Int, (l3, x3, x4, x5) = s2 ∧ Fr 78 [(3, .pointer (some ⟨b1, 0, none⟩)), (7, .slice A3 (l3).length cap3), (9, .slice (some ⟨b5, 0, none⟩) (([(x1, x2), (p1_0, p1_1)] : List (Int × Int))).length 2), (10, .int .i64 (x3))] a' ∧ Cl w' b1 34 [.int .i64 (x4), .int .i64 (x5)] ∧ Ow 2 encII 34 w' [b5] (some ⟨b5, 0, none⟩) 2 (([(x1, x2), (p1_0, p1_1)] : List (Int × Int))) ∧ Ow 2 encII 34 w' fp2 A3 cap3 l3 ∧ (∀ x ∈ fp2, w0.heap.size ≤ x) ∧ Dj [b1] fp2 ∧ Dj [b5] fp2 ∧ Chg [] w0 w' ∧ w0.heap.size ≤ w'.heap.size) hr1 (fun hst => ⟨([] : List (Int × Int)), (some ⟨b3, 0, none⟩), 0, [b3], 0, p0_0, p0_1, rfl, Fr.of hst (by kernel_rfl), F7, F11, F9, G3, D2, (D9).symm, hB, hZ⟩) ?_
   rintro _ c1 a' w9 ⟨l3, A3, cap3, fp2, x3, x4, x5, rfl, hF2, F12, F13, F14, G6, D11, D12, hB, hZ⟩ hx1
   refine Fr.goOn hF2 (by kernel_rfl) ?_
   have hm := hx1
   unfold m_spec_l05Steps_s3 at hm
   refine cW_seq ?_
   refine cW_seq ?_
   refine cW_region ?_
   refine wS_pure 2 [(28, .bool (decide (x3 < 2))), (27, .int .i64 (x3))] (by kernel_rfl) ?_
   refine wS_end (by rfl) ?_
   refine eX_then ?_
   refine cW_cond (t := decide (x3 < 2)) (by kernel_rfl) (fun hb2 => ?_) (fun hb2 => ?_)
   ·have hm := condT hb2 hm
    refine cW_skip ?_
    refine eX_then ?_
    refine cW_seq ?_
    refine cW_block ?_
    obtain ⟨r2, hr2, hm⟩ := bindE hm
    have hm2 := hm
    refine cW_cut (fun a' w' => ∃ l4 : List (Int × Int), ∃ A4 : Option Addr, ∃ cap4 : Nat, ∃ fp3 : List Nat, ∃ x6 : Int, ∃ x7 : Int, (l4, x6, x7) = r2 ∧ Fr 78 [(3, .pointer (some ⟨b1, 0, none⟩)), (7, .slice A4 (l4).length cap4), (9, .slice (some ⟨b5, 0, none⟩) (([(x1, x2), (p1_0, p1_1)] : List (Int × Int))).length 2), (10, .int .i64 (x3))] a' ∧ Cl w' b1 34 [.int .i64 (x6), .int .i64 (x7)] ∧ Ow 2 encII 34 w' [b5] (some ⟨b5, 0, none⟩) 2 (([(x1, x2), (p1_0, p1_1)] : List (Int × Int))) ∧ Ow 2 encII 34 w' fp3 A4 cap4 l4 ∧ (∀ x ∈ fp3, w0.heap.size ≤ x) ∧ Dj [b1] fp3 ∧ Dj [b5] fp3 ∧ Chg [] w0 w' ∧ w0.heap.size ≤ w'.heap.size) ?_ ?_
    ·refine cW_block ?_
     refine cW_loop _ (fun (s3 : (List (Int × Int)) × Int × Int) a' w' => ∃ l5 : List (Int × Int), ∃ A5 : Option Addr, ∃ cap5 : Nat, ∃ fp4 : List Nat, ∃ x8 : Int, ∃ x9 : Int, (l5, x8, x9) = s3 ∧ Fr 78 [(3, .pointer (some ⟨b1, 0, none⟩)), (7, .slice A5 (l5).length cap5), (9, .slice (some ⟨b5, 0, none⟩) (([(x1, x2), (p1_0, p1_1)] : List (Int × Int))).length 2), (10, .int .i64 (x3))] a' ∧ Cl w' b1 34 [.int .i64 (x8), .int .i64 (x9)] ∧ Ow 2 encII 34 w' [b5] (some ⟨b5, 0, none⟩) 2 (([(x1, x2), (p1_0, p1_1)] : List (Int × Int))) ∧ Ow 2 encII 34 w' fp4 A5 cap5 l5 ∧ (∀ x ∈ fp4, w0.heap.size ≤ x) ∧ Dj [b1] fp4 ∧ Dj [b5] fp4 ∧ Chg [] w0 w' ∧ w0.heap.size ≤ w'.heap.size) hr2 (fun hst => ⟨l3, A3, cap3, fp2, x4, x5, rfl, Fr.of hst (by kernel_rfl), F12, F13, F14, G6, D11, D12, hB, hZ⟩) ?_
     rintro _ c2 a' w10 ⟨l5, A5, cap5, fp4, x8, x9, rfl, hF3, F15, F16, F17, G7, D13, D14, hB, hZ⟩ hx2
     refine Fr.goOn hF3 (by kernel_rfl) ?_
     have hm := hx2
     unfold m_spec_l05Steps_s4 at hm
     refine cW_seq ?_
     refine cW_seq ?_
     refine cW_drawnTail [] 5 (by kernel_rfl) (by kernel_rfl) (fun w11 hc8 => ?_)
     replace F15 := F15.chg hc8 notNil
     replace F16 := F16.chg hc8 Dj.nil
     replace F17 := F17.chg hc8 Dj.nil
     replace hB := hB.inS hc8 inNil
     replace hZ := Nat.le_trans hZ hc8.size
     have hS := Chg.refl [] w11
     have Z1 := F15
     have Z2 := F16
     have Z3 := F17
     refine wH_loadA (i := 0) (d := 31) (T := 34) (ad := ⟨b1, 0, none⟩) (vs := [.int .i64 (x8), .int .i64 (x9)]) (by kernel_rfl) (qT (qT (qT (qL (qB (qT (qB (qT (qL (qB (qT (qT qZ)))))))))))) (by kernel_rfl) (by kernel_rfl) vt34 (fun W hW i u hu => box_cells (Z1.chg hW notNil) 0 hu (by rfl)) ?_
     refine wH_take [1, 2] [2, 1, 0] [(33, .int .i64 (x3)), (32, .slice (some ⟨b5, 0, none⟩) (([(x1, x2), (p1_0, p1_1)] : List (Int × Int))).length 2)] (by kernel_rfl) (qT (qT (qT (qL (qB (qT (qB (qT (qL (qB (qT (qT qZ)))))))))))) (by kernel_rfl) ?_
     obtain ⟨x10, hx3, hm⟩ := bindE hm
     refine wH_idx (i := 3) (d := 34) (T := 26) (A := (some ⟨b5, 0, none⟩)) (n := (([(x1, x2), (p1_0, p1_1)] : List (Int × Int))).length) (cap := 2) (kd := .i64) (m := x3) (by kernel_rfl) (qT (qT (qT (qL (qB (qT (qB (qT (qL (qB (qT (qT qZ)))))))))))) (by kernel_rfl) (by kernel_rfl) sl26 ((F16.sl encII_ok).is hx3) ?_
     refine wH_loadA (i := 4) (d := 35) (T := 34) (ad := (elA (some ⟨b5, 0, none⟩) 2 (x3) 0)) (vs := [.int .i64 (x10.1), .int .i64 (x10.2)]) (by kernel_rfl) (qT (qT (qT (qL (qB (qT (qB (qT (qL (qB (qT (qT qZ)))))))))))) (by kernel_rfl) (by kernel_rfl) vt34 (fun W hW i u hu => Sl.cells_at ((Z2.chg hW Dj.nil).sl encII_ok) hx3 0 hu (by rfl)) ?_
     refine wH_done (by kernel_rfl) ?_
     refine eX_tail ?_
     refine wS_neS (d := 36) (T := 34) (x := x8) (y := x9) (x' := x10.1) (y' := x10.2) (by kernel_rfl) eq34 ?_
     refine wS_end (by rfl) ?_
     refine eX_then ?_
     refine cW_cond (t := !(x8 == x10.1 && x9 == x10.2)) (by kernel_rfl) (fun hb3 => ?_) (fun hb3 => ?_)
     ·have hm := condT hb3 hm
      refine cW_skip ?_
      refine eX_then ?_
      refine cW_block ?_
      refine cW_seq ?_
      obtain ⟨s4, hs2, hm⟩ := bindE hm
      refine cW_cut (fun a' w' => ∃ b6 : Nat, ∃ x11 : Int, ∃ x12 : Int, (x11, x12) = s4 ∧ Fr 78 [(3, .pointer (some ⟨b1, 0, none⟩)), (7, .slice A5 (l5).length cap5), (9, .slice (some ⟨b5, 0, none⟩) (([(x1, x2), (p1_0, p1_1)] : List (Int × Int))).length 2), (10, .int .i64 (x3)), (11, .pointer (some ⟨b6, 0, none⟩))] a' ∧ Cl w' b1 34 [.int .i64 (x8), .int .i64 (x9)] ∧ Ow 2 encII 34 w' [b5] (some ⟨b5, 0, none⟩) 2 (([(x1, x2), (p1_0, p1_1)] : List (Int × Int))) ∧ Ow 2 encII 34 w' fp4 A5 cap5 l5 ∧ Cl w' b6 34 [.int .i64 (x11), .int .i64 (x12)] ∧ w0.heap.size ≤ b6 ∧ Dj [b1] [b6] ∧ Dj [b5] [b6] ∧ Dj fp4 [b6] ∧ Chg [] w0 w' ∧ w0.heap.size ≤ w'.heap.size) ?_ ?_
      ·have hm := hs2
       refine cW_drawnTail [] 26 (by kernel_rfl) (by kernel_rfl) (fun w12 hc9 => ?_)
       replace F15 := F15.chg hc9 notNil
       replace F16 := F16.chg hc9 Dj.nil
       replace F17 := F17.chg hc9 Dj.nil
       replace hB := hB.inS hc9 inNil
       replace hZ := Nat.le_trans hZ hc9.size
       have hS := Chg.refl [] w12
       have Z4 := F15
       have Z5 := F16
       have Z6 := F17
       refine wH_take [0] [0] [(37, .pointer (some ⟨b1, 0, none⟩))] (by kernel_rfl) (qT (qT (qT (qB (qL (qB (qT (qB (qT (qL (qB (qT (qT qZ))))))))))))) (by kernel_rfl) ?_
       refine wH_load1 (i := 1) (d := 38) (T := 2) (ad := ⟨b1, 0, none⟩) (v := .int .i64 (x8)) (by kernel_rfl) (qT (qT (qT (qB (qL (qB (qT (qB (qT (qL (qB (qT (qT qZ))))))))))))) (by kernel_rfl) (by kernel_rfl) vt2 (fun W hW => (Z4.chg hW notNil).cell 0) ?_
       refine wH_take [2, 3] [3, 2, 1, 0] [(40, .int .i64 (x3)), (39, .slice (some ⟨b5, 0, none⟩) (([(x1, x2), (p1_0, p1_1)] : List (Int × Int))).length 2)] (by kernel_rfl) (qT (qT (qT (qB (qL (qB (qT (qB (qT (qL (qB (qT (qT qZ))))))))))))) (by kernel_rfl) ?_
       obtain ⟨x13, hx4, hm⟩ := bindE hm
       refine wH_idx (i := 4) (d := 41) (T := 26) (A := (some ⟨b5, 0, none⟩)) (n := (([(x1, x2), (p1_0, p1_1)] : List (Int × Int))).length) (cap := 2) (kd := .i64) (m := x3) (by kernel_rfl) (qT (qT (qT (qB (qL (qB (qT (qB (qT (qL (qB (qT (qT qZ))))))))))))) (by kernel_rfl) (by kernel_rfl) sl26 ((F16.sl encII_ok).is hx4) ?_
       refine wH_take [5] [5, 4, 3, 2, 1, 0] [(42, .pointer (some (elA (some ⟨b5, 0, none⟩) 2 (x3) 0)))] (by kernel_rfl) (qT (qT (qT (qB (qL (qB (qT (qB (qT (qL (qB (qT (qT qZ))))))))))))) (by kernel_rfl) ?_
       refine wH_load1 (i := 6) (d := 43) (T := 2) (ad := (elA (some ⟨b5, 0, none⟩) 2 (x3) 0)) (v := .int .i64 (x13.1)) (by kernel_rfl) (qT (qT (qT (qB (qL (qB (qT (qB (qT (qL (qB (qT (qT qZ))))))))))))) (by kernel_rfl) (by kernel_rfl) vt2 (fun W hW => Sl.cell ((Z5.chg hW Dj.nil).sl encII_ok) hx4 0 (by rfl)) ?_
       refine wH_take [7] [7, 6, 5, 4, 3, 2, 1, 0] [(44, .pointer (some ⟨b1, 0, none⟩))] (by kernel_rfl) (qT (qT (qT (qB (qL (qB (qT (qB (qT (qL (qB (qT (qT qZ))))))))))))) (by kernel_rfl) ?_
       refine wH_load1 (i := 8) (d := 45) (T := 2) (ad := ⟨b1, 0, none⟩) (v := .int .i64 (x8)) (by kernel_rfl) (qT (qT (qT (qB (qL (qB (qT (qB (qT (qL (qB (qT (qT qZ))))))))))))) (by kernel_rfl) (by kernel_rfl) vt2 (fun W hW => (Z4.chg hW notNil).cell 0) ?_
       refine wH_take [9, 12] [12, 9, 8, 7, 6, 5, 4, 3, 2, 1, 0] [(49, .pointer (some ⟨b1, 1, none⟩)), (46, .int .i64 (wr (x13.1 - x8)))] (by kernel_rfl) (qT (qT (qT (qB (qL (qB (qT (qB (qT (qL (qB (qT (qT qZ))))))))))))) (by kernel_rfl) ?_
       refine wH_load1 (i := 13) (d := 50) (T := 2) (ad := ⟨b1, 1, none⟩) (v := .int .i64 (x9)) (by kernel_rfl) (qT (qT (qT (qB (qL (qB (qT (qB (qT (qL (qB (qT (qT qZ))))))))))))) (by kernel_rfl) (by kernel_rfl) vt2 (fun W hW => (Z4.chg hW notNil).cell 1) ?_
       refine wH_take [14, 15] [15, 14, 13, 12, 9, 8, 7, 6, 5, 4, 3, 2, 1, 0] [(52, .int .i64 (x3)), (51, .slice (some ⟨b5, 0, none⟩) (([(x1, x2), (p1_0, p1_1)] : List (Int × Int))).length 2)] (by kernel_rfl) (qT (qT (qT (qB (qL (qB (qT (qB (qT (qL (qB (qT (qT qZ))))))))))))) (by kernel_rfl) ?_
       obtain ⟨x14, hx5, hm⟩ := bindE hm
       refine wH_idx (i := 16) (d := 53) (T := 26) (A := (some ⟨b5, 0, none⟩)) (n := (([(x1, x2), (p1_0, p1_1)] : List (Int × Int))).length) (cap := 2) (kd := .i64) (m := x3) (by kernel_rfl) (qT (qT (qT (qB (qL (qB (qT (qB (qT (qL (qB (qT (qT qZ))))))))))))) (by kernel_rfl) (by kernel_rfl) sl26 ((F16.sl encII_ok).is hx5) ?_
       refine wH_take [17] [17, 16, 15, 14, 13, 12, 9, 8, 7, 6, 5, 4, 3, 2, 1, 0] [(54, .pointer (some (elA (some ⟨b5, 0, none⟩) 2 (x3) 1)))] (by kernel_rfl) (qT (qT (qT (qB (qL (qB (qT (qB (qT (qL (qB (qT (qT qZ))))))))))))) (by kernel_rfl) ?_
       refine wH_load1 (i := 18) (d := 55) (T := 2) (ad := (elA (some ⟨b5, 0, none⟩) 2 (x3) 1)) (v := .int .i64 (x14.2)) (by kernel_rfl) (qT (qT (qT (qB (qL (qB (qT (qB (qT (qL (qB (qT (qT qZ))))))))))))) (by kernel_rfl) (by kernel_rfl) vt2 (fun W hW => Sl.cell ((Z5.chg hW Dj.nil).sl encII_ok) hx5 1 (by rfl)) ?_
       refine wH_take [19] [19, 18, 17, 16, 15, 14, 13, 12, 9, 8, 7, 6, 5, 4, 3, 2, 1, 0] [(56, .pointer (some ⟨b1, 1, none⟩))] (by kernel_rfl) (qT (qT (qT (qB (qL (qB (qT (qB (qT (qL (qB (qT (qT qZ))))))))))))) (by kernel_rfl) ?_
       refine wH_load1 (i := 20) (d := 57) (T := 2) (ad := ⟨b1, 1, none⟩) (v := .int .i64 (x9)) (by kernel_rfl) (qT (qT (qT (qB (qL (qB (qT (qB (qT (qL (qB (qT (qT qZ))))))))))))) (by kernel_rfl) (by kernel_rfl) vt2 (fun W hW => (Z4.chg hW notNil).cell 1) ?_
       refine wH_take [21] [21, 20, 19, 18, 17, 16, 15, 14, 13, 12, 9, 8, 7, 6, 5, 4, 3, 2, 1, 0] [(58, .int .i64 (wr (x14.2 - x9)))] (by kernel_rfl) (qT (qT (qT (qB (qL (qB (qT (qB (qT (qL (qB (qT (qT qZ))))))))))))) (by kernel_rfl) ?_
       refine wH_all [10, 25] (by rfl) (by kernel_rfl) (by simp) ⟨⟨by kernel_rfl, ?_⟩, ⟨by kernel_rfl, ?_⟩, trivial⟩
       ·skip
        obtain ⟨y1, hy1, hm⟩ := bindE hm
        refine wS_calls (d := 47) (f := 56) (vs := [.int .i64 (wr (x13.1 - x8))]) (by kernel_rfl) ent56 (c_spec_l01Sign hy1) ?_
        rintro _ w13 ⟨rfl, hc10⟩
        replace F15 := F15.chg hc10 notNil
        replace F16 := F16.chg hc10 Dj.nil
        replace F17 := F17.chg hc10 Dj.nil
        replace hB := hB.inS hc10 inNil
        have hSz := hS
        replace hS := hS.inS hc10 inNil
        replace hZ := Nat.le_trans hZ hc10.size
        refine ⟨.int .i64 (y1), rfl, ?_⟩
        refine wS_end (by kernel_rfl) ?_
        refine eX_KH hS ?_
        refine wH_take [11] [11, 10, 21, 20, 19, 18, 17, 16, 15, 14, 13, 12, 9, 8, 7, 6, 5, 4, 3, 2, 1, 0] [(48, .int .i64 (wr (x8 + y1)))] (by kernel_rfl) (qT (qT (qT (qB (qL (qB (qT (qB (qT (qL (qB (qT (qT qZ))))))))))))) (by kernel_rfl) ?_
        refine wH_all [22, 25] (by rfl) (by kernel_rfl) (by simp) ⟨⟨by kernel_rfl, ?_⟩, ⟨by kernel_rfl, ?_⟩, trivial⟩
        ·skip
         obtain ⟨y2, hy2, hm⟩ := bindE hm
         refine wS_calls (d := 59) (f := 56) (vs := [.int .i64 (wr (x14.2 - x9))]) (by kernel_rfl) ent56 (c_spec_l01Sign hy2) ?_
         rintro _ w14 ⟨rfl, hc11⟩
         replace F15 := F15.chg hc11 notNil
         replace F16 := F16.chg hc11 Dj.nil
         replace F17 := F17.chg hc11 Dj.nil
         replace hB := hB.inS hc11 inNil
         have hSz := hS
         replace hS := hS.inS hc11 inNil
         replace hZ := Nat.le_trans hZ hc11.size
         refine ⟨.int .i64 (y2), rfl, ?_⟩
         refine wS_end (by kernel_rfl) ?_
         refine eX_KH hS ?_
         refine wH_take [23, 24] [24, 23, 22, 11, 10, 21, 20, 19, 18, 17, 16, 15, 14, 13, 12, 9, 8, 7, 6, 5, 4, 3, 2, 1, 0] [(61, .agg #[.int .i64 (wr (x8 + y1)), .int .i64 (wr (x9 + y2))]), (60, .int .i64 (wr (x9 + y2)))] (by kernel_rfl) (qT (qT (qT (qB (qL (qB (qT (qB (qT (qL (qB (qT (qT qZ))))))))))))) (by kernel_rfl) ?_
         refine wH_all [25] (by rfl) (by kernel_rfl) (by simp) ⟨⟨by kernel_rfl, ?_⟩, trivial⟩
         refine wS_alloc (d := 11) (T := 34) (z := .agg #[.int .i64 (0), .int .i64 (0)]) (by kernel_rfl) (by kernel_rfl) ?_
         intro b7 w15 G8 F18 hc12
         replace F18 : Cl w15 b7 34 [.int .i64 (0), .int .i64 (0)] := F18
         have D15 : Dj [b1] [b7] := Dj.of (lt1 F15.lt) (low1 G8)
         have D16 : Dj [b5] [b7] := Dj.of F16.low (low1 G8)
         have D17 : Dj fp4 [b7] := Dj.of F17.low (low1 G8)
         replace F15 := F15.chg hc12 notNil
         replace F16 := F16.chg hc12 Dj.nil
         replace F17 := F17.chg hc12 Dj.nil
         replace hB := hB.inS hc12 inNil
         have hSz := hS
         replace hS := hS.inS hc12 inNil
         have Gz1 := low1 (Nat.le_trans hSz.size G8)
         replace G8 := Nat.le_trans hZ G8
         replace hZ := Nat.le_trans hZ hc12.size
         refine wS_end (by kernel_rfl) ?_
         refine eX_KH hS ?_
         refine wH_done (by kernel_rfl) ?_
         refine eX_tail ?_
         refine wS_store (T := 34) (g := b7) (o := 0) (ad := ⟨b7, 0, none⟩) (v := .agg #[.int .i64 (wr (x8 + y1)), .int .i64 (wr (x9 + y2))]) (vs := [.int .i64 (wr (x8 + y1)), .int .i64 (wr (x9 + y2))]) (by kernel_rfl) (by rfl) sz34 (by rfl) (by rfl) F18 (by simp only [List.length_cons, List.length_nil]; omega) ?_
         intro w16 F19 hc13
         replace F15 := F15.chg hc13 (dj1 D15)
         replace F16 := F16.chg hc13 D16
         replace F17 := F17.chg hc13 D17
         replace hB := hB.inS hc13 (inLow (low1 G8))
         replace hZ := Nat.le_trans hZ hc13.size
         replace F19 : Cl w16 b7 34 [.int .i64 (wr (x8 + y1)), .int .i64 (wr (x9 + y2))] := F19
         clear F18
         refine wS_end (by rfl) ?_
         have hq : (some ((wr (x8 + y1), wr (x9 + y2))) : Option (Int × Int)) = some _ := hm
         replace hq := someE hq
         subst hq
         exact eX_J (fun hst => ⟨b7, wr (x8 + y1), wr (x9 + y2), rfl, Fr.of hst (by kernel_rfl), F15, F16, F17, F19, G8, D15, D16, D17, hB, hZ⟩)
        ·skip
         refine wS_alloc (d := 11) (T := 34) (z := .agg #[.int .i64 (0), .int .i64 (0)]) (by kernel_rfl) (by kernel_rfl) ?_
         intro b8 w17 G9 F20 hc14
         replace F20 : Cl w17 b8 34 [.int .i64 (0), .int .i64 (0)] := F20
         have D18 : Dj [b1] [b8] := Dj.of (lt1 F15.lt) (low1 G9)
         have D19 : Dj [b5] [b8] := Dj.of F16.low (low1 G9)
         have D20 : Dj fp4 [b8] := Dj.of F17.low (low1 G9)
         replace F15 := F15.chg hc14 notNil
         replace F16 := F16.chg hc14 Dj.nil
         replace F17 := F17.chg hc14 Dj.nil
         replace hB := hB.inS hc14 inNil
         have hSz := hS
         replace hS := hS.inS hc14 inNil
         have Gz2 := low1 (Nat.le_trans hSz.size G9)
         replace G9 := Nat.le_trans hZ G9
         replace hZ := Nat.le_trans hZ hc14.size
         refine wS_end (by kernel_rfl) ?_
         refine eX_KH hS ?_
         refine wH_all [22] (by rfl) (by kernel_rfl) (by simp) ⟨⟨by kernel_rfl, ?_⟩, trivial⟩
         obtain ⟨y3, hy3, hm⟩ := bindE hm
         refine wS_calls (d := 59) (f := 56) (vs := [.int .i64 (wr (x14.2 - x9))]) (by kernel_rfl) ent56 (c_spec_l01Sign hy3) ?_
         rintro _ w18 ⟨rfl, hc15⟩
         replace F15 := F15.chg hc15 notNil
         replace F16 := F16.chg hc15 Dj.nil
         replace F17 := F17.chg hc15 Dj.nil
         replace F20 := F20.chg hc15 notNil
         replace hB := hB.inS hc15 inNil
         have hSz := hS
         replace hS := hS.inS hc15 inNil
         replace hZ := Nat.le_trans hZ hc15.size
         refine ⟨.int .i64 (y3), rfl, ?_⟩
         refine wS_end (by kernel_rfl) ?_
         refine eX_KH hS ?_
         refine wH_take [23, 24] [24, 23, 22, 25, 11, 10, 21, 20, 19, 18, 17, 16, 15, 14, 13, 12, 9, 8, 7, 6, 5, 4, 3, 2, 1, 0] [(61, .agg #[.int .i64 (wr (x8 + y1)), .int .i64 (wr (x9 + y3))]), (60, .int .i64 (wr (x9 + y3)))] (by kernel_rfl) (qT (qT (qT (qB (qL (qB (qT (qB (qT (qL (qB (qT (qT qZ))))))))))))) (by kernel_rfl) ?_
         refine wH_done (by kernel_rfl) ?_
         refine eX_tail ?_
         refine wS_store (T := 34) (g := b8) (o := 0) (ad := ⟨b8, 0, none⟩) (v := .agg #[.int .i64 (wr (x8 + y1)), .int .i64 (wr (x9 + y3))]) (vs := [.int .i64 (wr (x8 + y1)), .int .i64 (wr (x9 + y3))]) (by kernel_rfl) (by rfl) sz34 (by rfl) (by rfl) F20 (by simp only [List.length_cons, List.length_nil]; omega) ?_
         intro w19 F21 hc16
         replace F15 := F15.chg hc16 (dj1 D18)
         replace F16 := F16.chg hc16 D19
         replace F17 := F17.chg hc16 D20
         replace hB := hB.inS hc16 (inLow (low1 G9))
         replace hZ := Nat.le_trans hZ hc16.size
         replace F21 : Cl w19 b8 34 [.int .i64 (wr (x8 + y1)), .int .i64 (wr (x9 + y3))] := F21
         clear F20
         refine wS_end (by rfl) ?_
         have hq : (some ((wr (x8 + y1), wr (x9 + y3))) : Option (Int × Int)) = some _ := hm
         replace hq := someE hq
         subst hq
         exact eX_J (fun hst => ⟨b8, wr (x8 + y1), wr (x9 + y3), rfl, Fr.of hst (by kernel_rfl), F15, F16, F17, F21, G9, D18, D19, D20, hB, hZ⟩)
       ·skip
        refine wS_alloc (d := 11) (T := 34) (z := .agg #[.int .i64 (0), .int .i64 (0)]) (by kernel_rfl) (by kernel_rfl) ?_
        intro b9 w20 G10 F22 hc17
        replace F22 : Cl w20 b9 34 [.int .i64 (0), .int .i64 (0)] := F22
        have D21 : Dj [b1] [b9] := Dj.of (lt1 F15.lt) (low1 G10)
        have D22 : Dj [b5] [b9] := Dj.of F16.low (low1 G10)
        have D23 : Dj fp4 [b9] := Dj.of F17.low (low1 G10)
        replace F15 := F15.chg hc17 notNil
        replace F16 := F16.chg hc17 Dj.nil
        replace F17 := F17.chg hc17 Dj.nil
        replace hB := hB.inS hc17 inNil
        have hSz := hS
        replace hS := hS.inS hc17 inNil
        have Gz3 := low1 (Nat.le_trans hSz.size G10)
        replace G10 := Nat.le_trans hZ G10
        replace hZ := Nat.le_trans hZ hc17.size
        refine wS_end (by kernel_rfl) ?_
        refine eX_KH hS ?_
        refine wH_all [10] (by rfl) (by kernel_rfl) (by simp) ⟨⟨by kernel_rfl, ?_⟩, trivial⟩
        obtain ⟨y4, hy4, hm⟩ := bindE hm
        refine wS_calls (d := 47) (f := 56) (vs := [.int .i64 (wr (x13.1 - x8))]) (by kernel_rfl) ent56 (c_spec_l01Sign hy4) ?_
        rintro _ w21 ⟨rfl, hc18⟩
        replace F15 := F15.chg hc18 notNil
        replace F16 := F16.chg hc18 Dj.nil
        replace F17 := F17.chg hc18 Dj.nil
        replace F22 := F22.chg hc18 notNil
        replace hB := hB.inS hc18 inNil
        have hSz := hS
        replace hS := hS.inS hc18 inNil
        replace hZ := Nat.le_trans hZ hc18.size
        refine ⟨.int .i64 (y4), rfl, ?_⟩
        refine wS_end (by kernel_rfl) ?_
        refine eX_KH hS ?_
        refine wH_take [11] [11, 10, 25, 21, 20, 19, 18, 17, 16, 15, 14, 13, 12, 9, 8, 7, 6, 5, 4, 3, 2, 1, 0] [(48, .int .i64 (wr (x8 + y4)))] (by kernel_rfl) (qT (qT (qT (qB (qL (qB (qT (qB (qT (qL (qB (qT (qT qZ))))))))))))) (by kernel_rfl) ?_
        refine wH_all [22] (by rfl) (by kernel_rfl) (by simp) ⟨⟨by kernel_rfl, ?_⟩, trivial⟩
        obtain ⟨y5, hy5, hm⟩ := bindE hm
        refine wS_calls (d := 59) (f := 56) (vs := [.int .i64 (wr (x14.2 - x9))]) (by kernel_rfl) ent56 (c_spec_l01Sign hy5) ?_
        rintro _ w22 ⟨rfl, hc19⟩
        replace F15 := F15.chg hc19 notNil
        replace F16 := F16.chg hc19 Dj.nil
        replace F17 := F17.chg hc19 Dj.nil
        replace F22 := F22.chg hc19 notNil
        replace hB := hB.inS hc19 inNil
        have hSz := hS
        replace hS := hS.inS hc19 inNil
        replace hZ := Nat.le_trans hZ hc19.size
        refine ⟨.int .i64 (y5), rfl, ?_⟩
        refine wS_end (by kernel_rfl) ?_
        refine eX_KH hS ?_
        refine wH_take [23, 24] [24, 23, 22, 11, 10, 25, 21, 20, 19, 18, 17, 16, 15, 14, 13, 12, 9, 8, 7, 6, 5, 4, 3, 2, 1, 0] [(61, .agg #[.int .i64 (wr (x8 + y4)), .int .i64 (wr (x9 + y5))]), (60, .int .i64 (wr (x9 + y5)))] (by kernel_rfl) (qT (qT (qT (qB (qL (qB (qT (qB (qT (qL (qB (qT (qT qZ))))))))))))) (by kernel_rfl) ?_
        refine wH_done (by kernel_rfl) ?_
        refine eX_tail ?_
        refine wS_store (T := 34) (g := b9) (o := 0) (ad := ⟨b9, 0, none⟩) (v := .agg #[.int .i64 (wr (x8 + y4)), .int .i64 (wr (x9 + y5))]) (vs := [.int .i64 (wr (x8 + y4)), .int .i64 (wr (x9 + y5))]) (by kernel_rfl) (by rfl) sz34 (by rfl) (by rfl) F22 (by simp only [List.length_cons, List.length_nil]; omega) ?_
        intro w23 F23 hc20
        replace F15 := F15.chg hc20 (dj1 D21)
        replace F16 := F16.chg hc20 D22
        replace F17 := F17.chg hc20 D23
        replace hB := hB.inS hc20 (inLow (low1 G10))
        replace hZ := Nat.le_trans hZ hc20.size
        replace F23 : Cl w23 b9 34 [.int .i64 (wr (x8 + y4)), .int .i64 (wr (x9 + y5))] := F23
        clear F22
        refine wS_end (by rfl) ?_
        have hq : (some ((wr (x8 + y4), wr (x9 + y5))) : Option (Int × Int)) = some _ := hm
        replace hq := someE hq
        subst hq
        exact eX_J (fun hst => ⟨b9, wr (x8 + y4), wr (x9 + y5), rfl, Fr.of hst (by kernel_rfl), F15, F16, F17, F23, G10, D21, D22, D23, hB, hZ⟩)
      ·rintro a' w24 ⟨b6, x11, x12, hJ, hF4, F24, F25, F26, F27, G11, D24, D25, D26, hB, hZ⟩
       subst hJ
       refine Fr.goX hF4 (by kernel_rfl) ?_
       refine eX_then ?_
       refine cW_seq ?_
       refine cW_region ?_
       refine wS_pure 2 [(63, .pointer (some ⟨b1, 0, none⟩)), (62, .slice A5 (l5).length cap5)] (by kernel_rfl) ?_
       refine wS_load1 (d := 64) (T := 2) (ad := ⟨b1, 0, none⟩) (v := .int .i64 (x8)) (by kernel_rfl) vt2 ((F24).cell 0) ?_
       refine wS_pure 1 [(65, .pointer (some ⟨b6, 0, none⟩))] (by kernel_rfl) ?_
       refine wS_load1 (d := 66) (T := 2) (ad := ⟨b6, 0, none⟩) (v := .int .i64 (x11)) (by kernel_rfl) vt2 ((F27).cell 0) ?_
       refine wS_pure 2 [(68, .pointer (some ⟨b1, 1, none⟩)), (67, .int .i64 (wr (x8 + x11)))] (by kernel_rfl) ?_
       refine wS_load1 (d := 69) (T := 2) (ad := ⟨b1, 1, none⟩) (v := .int .i64 (x9)) (by kernel_rfl) vt2 ((F24).cell 1) ?_
       refine wS_pure 1 [(70, .pointer (some ⟨b6, 1, none⟩))] (by kernel_rfl) ?_
       refine wS_load1 (d := 71) (T := 2) (ad := ⟨b6, 1, none⟩) (v := .int .i64 (x12)) (by kernel_rfl) vt2 ((F27).cell 1) ?_
       refine wS_pure 2 [(73, .agg #[.int .i64 (wr (x8 + x11)), .int .i64 (wr (x9 + x12))]), (72, .int .i64 (wr (x9 + x12)))] (by kernel_rfl) ?_
       refine wS_bs (enc := encII) ([(wr (x8 + x11), wr (x9 + x12))] : List (Int × Int)) [.int .i64 (wr (x8 + x11)), .int .i64 (wr (x9 + x12))] (d := 74) (t := 26) (T := 34) (n := 1) (ps := [(0, .agg #[.int .i64 (wr (x8 + x11)), .int .i64 (wr (x9 + x12))])]) (by kernel_rfl) el26 encII_ok (by rfl) (by omega) (by omega) (by kernel_rfl) (by rfl) ?_
       intro b10 w25 G12 F28 hc21
       have D27 : Dj [b1] [b10] := Dj.of (lt1 F24.lt) (low1 G12)
       have D28 : Dj [b5] [b10] := Dj.of F25.low (low1 G12)
       have D29 : Dj fp4 [b10] := Dj.of F26.low (low1 G12)
       have D30 : Dj [b6] [b10] := Dj.of (lt1 F27.lt) (low1 G12)
       replace F24 := F24.chg hc21 notNil
       replace F25 := F25.chg hc21 Dj.nil
       replace F26 := F26.chg hc21 Dj.nil
       replace F27 := F27.chg hc21 notNil
       replace hB := hB.inS hc21 inNil
       replace G12 := Nat.le_trans hZ G12
       replace G12 := low1 G12
       replace hZ := Nat.le_trans hZ hc21.size
       obtain ⟨_, hk1, hm⟩ := bindE hm
       replace hk1 := apE hk1
       refine wS_append (enc := encII) (l := (l5 : List (Int × Int))) (l2 := (([(wr (x8 + x11), wr (x9 + x12))] : List (Int × Int)) : List (Int × Int))) (d := 75) (t := 26) (T := 34) (A := A5) (A2 := (some ⟨b10, 0, none⟩)) (cap := cap5) (cap2 := 1) (by kernel_rfl) el26 encII_ok F26 (F28.sl encII_ok) (by rfl) hk1 ?_
       intro w26 fp5 A6 cap6 F29 hc22 hp1
       have G13 := low_ap G7 hZ hp1
       have D31 : Dj [b1] fp5 := Dj.ap D13 (lt1 F24.lt) hp1
       have D32 : Dj [b5] fp5 := Dj.ap D14 F25.low hp1
       have D33 : Dj [b6] fp5 := Dj.ap (D26).symm (lt1 F27.lt) hp1
       have D34 : Dj [b10] fp5 := Dj.ap (D29).symm F28.low hp1
       replace F24 := F24.chg hc22 (dj1 D13)
       replace F25 := F25.chg hc22 D14
       replace F27 := F27.chg hc22 (dj1 (D26).symm)
       replace F28 := F28.chg hc22 (D29).symm
       replace hB := hB.inS hc22 (inLow G7)
       replace hZ := Nat.le_trans hZ hc22.size
       refine wS_pure 1 [(7, .slice A6 (l5 ++ (([(wr (x8 + x11), wr (x9 + x12))] : List (Int × Int)))).length cap6)] (by kernel_rfl) ?_
       refine wS_end (by rfl) ?_
       refine eX_then ?_
       refine cW_region ?_
       refine wS_loadA (d := 76) (T := 34) (ad := ⟨b6, 0, none⟩) (vs := [.int .i64 (x11), .int .i64 (x12)]) (by kernel_rfl) vt34 (fun i u hu => box_cells F27 0 hu (by rfl)) ?_
       refine wS_store (T := 34) (g := b1) (o := 0) (ad := ⟨b1, 0, none⟩) (v := .agg #[.int .i64 (x11), .int .i64 (x12)]) (vs := [.int .i64 (x11), .int .i64 (x12)]) (by kernel_rfl) (by rfl) sz34 (by rfl) (by rfl) F24 (by simp only [List.length_cons, List.length_nil]; omega) ?_
       intro w27 F30 hc23
       replace F25 := F25.chg hc23 (D7).symm
       replace F27 := F27.chg hc23 (dj1 (D24).symm)
       replace F28 := F28.chg hc23 (D27).symm
       replace F29 := F29.chg hc23 (D31).symm
       replace hB := hB.inS hc23 (inLow (low1 G1))
       replace hZ := Nat.le_trans hZ hc23.size
       replace F30 : Cl w27 b1 34 [.int .i64 (x11), .int .i64 (x12)] := F30
       clear F24
       refine wS_end (by rfl) ?_
       refine eX_block ?_
       have hq : (some (Ctl.next ((l5 ++ (([(wr (x8 + x11), wr (x9 + x12))] : List (Int × Int))), x11, x12))) : Option (Ctl ((List (Int × Int)) × Int × Int) ((List (Int × Int)) × Int × Int))) = some _ := hm
       replace hq := someE hq
       subst hq
       exact eX_next hx2 (fun hst => ⟨l5 ++ (([(wr (x8 + x11), wr (x9 + x12))] : List (Int × Int))), A6, cap6, fp5, x11, x12, rfl, Fr.of hst (by kernel_rfl), F30, F25, F29, G13, D31, D32, hB, hZ⟩)
     ·have hm := condF hb3 hm
      refine cW_exit ?_
      refine eX_then_exit ?_
      have hq : (some (Ctl.out ((l5, x8, x9))) : Option (Ctl ((List (Int × Int)) × Int × Int) ((List (Int × Int)) × Int × Int))) = some _ := hm
      replace hq := someE hq
      subst hq
      refine eX_outX hx2 (fun hr3 => ?_)
      replace hr3 := hr3.symm
      subst hr3
      refine eX_block_hit ?_
      exact eX_J (fun hst => ⟨l5, A5, cap5, fp4, x8, x9, rfl, Fr.of hst (by kernel_rfl), F15, F16, F17, G7, D13, D14, hB, hZ⟩)
    ·rintro a' w28 ⟨l4, A4, cap4, fp3, x6, x7, hJ, hF5, F31, F32, F33, G14, D35, D36, hB, hZ⟩
     subst hJ
     refine Fr.goX hF5 (by kernel_rfl) ?_
     refine eX_block ?_
     refine eX_then ?_
     refine cW_region ?_
     refine wS_pure 3 [(10, .int .i64 (wr (x3 + 1))), (30, .int .i64 (wr (x3 + 1))), (29, .int .i64 (x3))] (by kernel_rfl) ?_
     refine wS_end (by rfl) ?_
     have hq : (some (Ctl.next ((l4, wr (x3 + 1), x6, x7))) : Option (Ctl ((List (Int × Int)) × Int × Int × Int) ((List (Int × Int))))) = some _ := hm
     replace hq := someE hq
     subst hq
     exact eX_next hx1 (fun hst => ⟨l4, A4, cap4, fp3, wr (x3 + 1), x6, x7, rfl, Fr.of hst (by kernel_rfl), F31, F32, F33, G14, D35, D36, hB, hZ⟩)
   ·have hm := condF hb2 hm
    refine cW_exit ?_
    refine eX_then_exit ?_
    have hq : (some (Ctl.out l3) : Option (Ctl ((List (Int × Int)) × Int × Int × Int) ((List (Int × Int))))) = some _ := hm
    replace hq := someE hq
    subst hq
    refine eX_outX hx1 (fun hr4 => ?_)
    replace hr4 := hr4.symm
    subst hr4
    refine eX_block_hit ?_
    exact eX_J (fun hst => ⟨l3, A3, cap3, fp2, rfl, Fr.of hst (by kernel_rfl), F14, G6, hB, hZ⟩)
  ·rintro a' w29 ⟨l1, A1, cap1, fp1, hJ, hF6, F34, G15, hB, hZ⟩
   subst hJ
   refine Fr.goX hF6 (by kernel_rfl) ?_
   refine eX_then ?_
   refine cW_seq ?_
   refine cW_region ?_
   refine wS_pure 2 [(6, .slice A1 (l1).length cap1), (77, .slice A1 (l1).length cap1)] (by kernel_rfl) ?_
   refine wS_end (by rfl) ?_
   refine eX_then ?_
   refine cW_ret ?_
   have hq : (some l1 : Option ((List (Int × Int)))) = some _ := hm
   replace hq := someE hq
   subst hq
   refine eX_ret (vs := [.slice A1 (l1).length cap1]) [.tmp 6] (by rfl) ⟨by (show lkE _ _ _ = _); kernel_rfl, trivial⟩ ?_
   exact ⟨A1, cap1, fp1, rfl, F34, G15, hB⟩

set_option maxRecDepth 100000 in
/-- spec.l05Used -/
theorem c_spec_l05Used {w0 : World} {l0 : List (Int × Int)} {A0 : Option Addr} {cap0 : Nat} {fp0 : List Nat} {l1 : List (List (Int))} {A1 : Option Addr} {cap1 : Nat} {fp1 : List Nat} {p2 : Int} {r : (Int)} (hm : m_spec_l05Used l0 l1 p2 = some r) (F0 : Sl 2 encII w0 fp0 A0 l0) (F1 : SlR 1 encI w0 fp1 A1 l1) :
  Calls Try.prog 21 #[.slice A0 (l0).length cap0, .slice A1 (l1).length cap1, .int .i64 (p2)] w0 fun e w' => e = .returned (.int .i64 (r)) ∧ Chg [] w0 w' := by
 have L0 := F0.low
 have L1 := F1.low
 have hB : Chg [] w0 w0 := Chg.refl _ _
 have hZ := Nat.le_refl w0.heap.size
 unfold m_spec_l05Used at hm
 refine enterE (N := 84) Try.func21 (by rfl) Try.ntmps21 (by simp) [(0, .slice A0 (l0).length cap0), (1, .slice A1 (l1).length cap1), (2, .int .i64 (p2))] (by rfl) (by kernel_rfl) (fun a => ?_)
 refine cW_seq ?_
 refine cW_region ?_
 refine wS_pure 1 [(6, .int .i64 (0))] (by kernel_rfl) ?_
 refine wS_end (by rfl) ?_
 refine eX_then ?_
 refine cW_seq ?_
 refine cW_region ?_
 refine wS_bs0 (α := Int × Int) (enc := encII) (d := 14) (t := 26) (T := 34) (by kernel_rfl) el26 ?_
 intro b1 w1 G1 F2 hc1
 replace F0 := F0.chg hc1 Dj.nil
 replace F1 := F1.chg hc1 Dj.nil
 replace hB := hB.inS hc1 inNil
 replace G1 := Nat.le_trans hZ G1
 replace G1 := low1 G1
 replace hZ := Nat.le_trans hZ hc1.size
 refine wS_pure 1 [(7, .slice (some ⟨b1, 0, none⟩) (([] : List (Int × Int))).length 0)] (by kernel_rfl) ?_
 refine wS_end (by rfl) ?_
 refine eX_then ?_
 refine cW_seq ?_
 refine cW_seq ?_
 refine cW_region ?_
 refine wS_pure 1 [(8, .int .i64 (0))] (by kernel_rfl) ?_
 refine wS_end (by rfl) ?_
 refine eX_then ?_
 obtain ⟨r1, hr1, hm⟩ := bindE hm
 have hm1 := hm
 refine cW_cut (fun a' w' => ∃ l3 : List (Int × Int), ∃ A3 : Option Addr, ∃ cap3 : Nat, ∃ fp2 : List Nat, l3 = r1 ∧ Fr 84 [(7, .slice A3 (l3).length cap3)] a' ∧ Ow 2 encII 34 w' fp2 A3 cap3 l3 ∧ (∀ x ∈ fp2, w0.heap.size ≤ x) ∧ Chg [] w0 w' ∧ w0.heap.size ≤ w'.heap.size) ?_ ?_
 ·refine cW_block ?_
  refine cW_loop _ (fun (s1 : (List (Int × Int)) × Int) a' w' => ∃ l4 : List (Int × Int), ∃ A4 : Option Addr, ∃ cap4 : Nat, ∃ fp3 : List Nat, ∃ x1 : Int, (l4, x1) = s1 ∧ Fr 84 [(0, .slice A0 (l0).length cap0), (1, .slice A1 (l1).length cap1), (2, .int .i64 (p2)), (7, .slice A4 (l4).length cap4), (8, .int .i64 (x1))] a' ∧ Sl 2 encII w' fp0 A0 l0 ∧ SlR 1 encI w' fp1 A1 l1 ∧ Ow 2 encII 34 w' fp3 A4 cap4 l4 ∧ (∀ x ∈ fp3, w0.heap.size ≤ x) ∧ Chg [] w0 w' ∧ w0.heap.size ≤ w'.heap.size) hr1 (fun hst => ⟨([] : List (Int × Int)), (some ⟨b1, 0, none⟩), 0, [b1], 0, rfl, Fr.of hst (by kernel_rfl), F0, F1, F2, G1, hB, hZ⟩) ?_
  rintro _ c1 a' w2 ⟨l4, A4, cap4, fp3, x1, rfl, hF1, F3, F4, F5, G2, hB, hZ⟩ hx1
  refine Fr.goOn hF1 (by kernel_rfl) ?_
  have hm := hx1
  unfold m_spec_l05Used_s1 at hm
  refine cW_seq ?_
  refine cW_seq ?_
  refine cW_region ?_
  refine wS_pure 4 [(18, .bool (decide (x1 < (((l1).length : Int))))), (17, .int .i64 (((l1).length : Int))), (16, .slice A1 (l1).length cap1), (15, .int .i64 (x1))] (by kernel_rfl) ?_
  refine wS_end (by rfl) ?_
  refine eX_then ?_
  refine cW_cond (t := decide (x1 < (((l1).length : Int)))) (by kernel_rfl) (fun hb1 => ?_) (fun hb1 => ?_)
  ·have hm := condT hb1 hm
   refine cW_skip ?_
   refine eX_then ?_
   refine cW_seq ?_
   refine cW_block ?_
   refine cW_seq ?_
   refine cW_region ?_
   refine wS_pure 7 [(27, .int .u64 (wu (wr ((wr ((((l1).length : Int)) - 1)) - x1)))), (26, .int .i64 (wr ((wr ((((l1).length : Int)) - 1)) - x1))), (25, .int .i64 (x1)), (24, .int .i64 (wr ((((l1).length : Int)) - 1))), (23, .int .i64 (((l1).length : Int))), (22, .slice A1 (l1).length cap1), (21, .int .i64 (p2))] (by kernel_rfl) ?_
   obtain ⟨u1, hu1, hm⟩ := bindE hm
   refine wS_shr (d := 28) (x := p2) (y := wu (wr ((wr ((((l1).length : Int)) - 1)) - x1))) (yk := .u64) (by kernel_rfl) (p0E hu1) ?_
   refine wS_pure 3 [(9, .bool ((andI (shrI p2 (wu (wr ((wr ((((l1).length : Int)) - 1)) - x1)))) 1) == 0)), (30, .bool ((andI (shrI p2 (wu (wr ((wr ((((l1).length : Int)) - 1)) - x1)))) 1) == 0)), (29, .int .i64 (andI (shrI p2 (wu (wr ((wr ((((l1).length : Int)) - 1)) - x1)))) 1))] (by kernel_rfl) ?_
   refine wS_end (by rfl) ?_
   refine eX_then ?_
   refine cW_drawnTail [] 21 (by kernel_rfl) (by kernel_rfl) (fun w3 hc2 => ?_)
   replace F3 := F3.chg hc2 Dj.nil
   replace F4 := F4.chg hc2 Dj.nil
   replace F5 := F5.chg hc2 Dj.nil
   replace hB := hB.inS hc2 inNil
   replace hZ := Nat.le_trans hZ hc2.size
   have hS := Chg.refl [] w3
   have Z1 := F3
   have Z2 := F4
   have Z3 := F5
   refine wH_take [0, 1, 2, 3] [3, 2, 1, 0] [(34, .int .i64 (x1)), (33, .slice A1 (l1).length cap1), (32, .slice A0 (l0).length cap0), (31, .slice A4 (l4).length cap4)] (by kernel_rfl) (qT (qB (qT (qL (qB (qT (qT qZ))))))) (by kernel_rfl) ?_
   obtain ⟨x2, hx2, hm⟩ := bindE hm
   refine wH_idx (i := 4) (d := 35) (T := 40) (A := A1) (n := (l1).length) (cap := cap1) (kd := .i64) (m := x1) (by kernel_rfl) (qT (qB (qT (qL (qB (qT (qT qZ))))))) (by kernel_rfl) (by kernel_rfl) sl40 (F4.is hx2) ?_
   obtain ⟨A5, cap5, hc3, F6, K1⟩ := SlR.row Z2 hx2
   refine wH_load1 (i := 5) (d := 36) (T := 66) (ad := (elA A1 1 (x1) 0)) (v := .slice A5 (x2).length cap5) (by kernel_rfl) (qT (qB (qT (qL (qB (qT (qT qZ))))))) (by kernel_rfl) (by kernel_rfl) vt66 (fun W hW => hW.keep hc3) ?_
   obtain ⟨x3, hx3, hm⟩ := bindE hm
   refine wH_idx (i := 6) (d := 37) (T := 66) (A := A5) (n := (x2).length) (cap := cap5) (kd := .i64) (m := 0) (by kernel_rfl) (qT (qB (qT (qL (qB (qT (qT qZ))))))) (by kernel_rfl) (by kernel_rfl) sl66 (F6.is hx3) ?_
   refine wH_load1 (i := 7) (d := 38) (T := 2) (ad := (elA A5 1 (0) 0)) (v := .int .i64 (x3)) (by kernel_rfl) (qT (qB (qT (qL (qB (qT (qT qZ))))))) (by kernel_rfl) (by kernel_rfl) vt2 (fun W hW => Sl.cell (F6.chg hW Dj.nil) hx3 0 (by rfl)) ?_
   obtain ⟨x4, hx4, hm⟩ := bindE hm
   refine wH_idx (i := 8) (d := 39) (T := 26) (A := A0) (n := (l0).length) (cap := cap0) (kd := .i64) (m := x3) (by kernel_rfl) (qT (qB (qT (qL (qB (qT (qT qZ))))))) (by kernel_rfl) (by kernel_rfl) sl26 (F3.is hx4) ?_
   refine wH_loadA (i := 9) (d := 40) (T := 34) (ad := (elA A0 2 (x3) 0)) (vs := [.int .i64 (x4.1), .int .i64 (x4.2)]) (by kernel_rfl) (qT (qB (qT (qL (qB (qT (qT qZ))))))) (by kernel_rfl) (by kernel_rfl) vt34 (fun W hW i u hu => Sl.cells_at (Z1.chg hW Dj.nil) hx4 0 hu (by rfl)) ?_
   refine wH_take [10, 11, 12] [12, 11, 10, 9, 8, 7, 6, 5, 4, 3, 2, 1, 0] [(43, .int .i64 (x1)), (42, .slice A1 (l1).length cap1), (41, .slice A0 (l0).length cap0)] (by kernel_rfl) (qT (qB (qT (qL (qB (qT (qT qZ))))))) (by kernel_rfl) ?_
   obtain ⟨x5, hx5, hm⟩ := bindE hm
   refine wH_idx (i := 13) (d := 44) (T := 40) (A := A1) (n := (l1).length) (cap := cap1) (kd := .i64) (m := x1) (by kernel_rfl) (qT (qB (qT (qL (qB (qT (qT qZ))))))) (by kernel_rfl) (by kernel_rfl) sl40 (F4.is hx5) ?_
   obtain ⟨A6, cap6, hc4, F7, K2⟩ := SlR.row Z2 hx5
   refine wH_load1 (i := 14) (d := 45) (T := 66) (ad := (elA A1 1 (x1) 0)) (v := .slice A6 (x5).length cap6) (by kernel_rfl) (qT (qB (qT (qL (qB (qT (qT qZ))))))) (by kernel_rfl) (by kernel_rfl) vt66 (fun W hW => hW.keep hc4) ?_
   obtain ⟨x6, hx6, hm⟩ := bindE hm
   refine wH_idx (i := 15) (d := 46) (T := 66) (A := A6) (n := (x5).length) (cap := cap6) (kd := .i64) (m := 1) (by kernel_rfl) (qT (qB (qT (qL (qB (qT (qT qZ))))))) (by kernel_rfl) (by kernel_rfl) sl66 (F7.is hx6) ?_
   refine wH_load1 (i := 16) (d := 47) (T := 2) (ad := (elA A6 1 (1) 0)) (v := .int .i64 (x6)) (by kernel_rfl) (qT (qB (qT (qL (qB (qT (qT qZ))))))) (by kernel_rfl) (by kernel_rfl) vt2 (fun W hW => Sl.cell (F7.chg hW Dj.nil) hx6 0 (by rfl)) ?_
   obtain ⟨x7, hx7, hm⟩ := bindE hm
   refine wH_idx (i := 17) (d := 48) (T := 26) (A := A0) (n := (l0).length) (cap := cap0) (kd := .i64) (m := x6) (by kernel_rfl) (qT (qB (qT (qL (qB (qT (qT qZ))))))) (by kernel_rfl) (by kernel_rfl) sl26 (F3.is hx7) ?_
   refine wH_loadA (i := 18) (d := 49) (T := 34) (ad := (elA A0 2 (x6) 0)) (vs := [.int .i64 (x7.1), .int .i64 (x7.2)]) (by kernel_rfl) (qT (qB (qT (qL (qB (qT (qT qZ))))))) (by kernel_rfl) (by kernel_rfl) vt34 (fun W hW i u hu => Sl.cells_at (Z1.chg hW Dj.nil) hx7 0 hu (by rfl)) ?_
   refine wH_take [19] [19, 18, 17, 16, 15, 14, 13, 12, 11, 10, 9, 8, 7, 6, 5, 4, 3, 2, 1, 0] [(50, .bool ((andI (shrI p2 (wu (wr ((wr ((((l1).length : Int)) - 1)) - x1)))) 1) == 0))] (by kernel_rfl) (qT (qB (qT (qL (qB (qT (qT qZ))))))) (by kernel_rfl) ?_
   refine wH_all [20] (by rfl) (by kernel_rfl) (by simp) ⟨⟨by kernel_rfl, ?_⟩, trivial⟩
   obtain ⟨y1, hy1, hm⟩ := bindE hm
   refine wS_calls (d := 51) (f := 39) (vs := [.agg #[.int .i64 (x4.1), .int .i64 (x4.2)], .agg #[.int .i64 (x7.1), .int .i64 (x7.2)], .bool ((andI (shrI p2 (wu (wr ((wr ((((l1).length : Int)) - 1)) - x1)))) 1) == 0)]) (by kernel_rfl) ent39 (c_spec_l05Steps hy1) ?_
   rintro _ w4 ⟨A7, cap7, fp4, rfl, F8, G3, hc5⟩
   have D1 : Dj fp3 fp4 := Dj.of F5.low G3
   replace F3 := F3.chg hc5 Dj.nil
   replace F4 := F4.chg hc5 Dj.nil
   replace F5 := F5.chg hc5 Dj.nil
   replace F6 := F6.chg hc5 Dj.nil
   replace F7 := F7.chg hc5 Dj.nil
   replace hB := hB.inS hc5 inNil
   have hSz := hS
   replace hS := hS.inS hc5 inNil
   replace G3 := low_le hZ G3
   replace hZ := Nat.le_trans hZ hc5.size
   refine ⟨.slice A7 (y1).length cap7, rfl, ?_⟩
   refine wS_end (by kernel_rfl) ?_
   refine eX_KH hS ?_
   refine wH_done (by kernel_rfl) ?_
   refine eX_tail ?_
   obtain ⟨_, hk1, hm⟩ := bindE hm
   replace hk1 := apE hk1
   refine wS_appendAny (enc := encII) (l := (l4 : List (Int × Int))) (l2 := (y1 : List (Int × Int))) (d := 52) (t := 26) (T := 34) (A := A4) (A2 := A7) (cap := cap4) (cap2 := cap7) (by kernel_rfl) el26 encII_ok F5 (F8.sl encII_ok) hk1 ?_
   intro w5 fp5 A8 cap8 F9 hc6 hp1
   have G4 := low_ap G2 hZ hp1
   have D2 : Dj fp4 fp5 := Dj.ap (D1).symm F8.low hp1
   replace F3 := F3.chg hc6 (Dj.of L0 G2)
   replace F4 := F4.chg hc6 (Dj.of L1 G2)
   replace F6 := F6.chg hc6 (Dj.of L1 G2)
   replace F7 := F7.chg hc6 (Dj.of L1 G2)
   replace F8 := F8.chg hc6 (D1).symm
   replace hB := hB.inS hc6 (inLow G2)
   replace hZ := Nat.le_trans hZ hc6.size
   refine wS_pure 1 [(7, .slice A8 (l4 ++ y1).length cap8)] (by kernel_rfl) ?_
   refine wS_end (by rfl) ?_
   refine eX_block ?_
   refine eX_then ?_
   refine cW_prune [(0, .slice A0 (l0).length cap0), (1, .slice A1 (l1).length cap1), (2, .int .i64 (p2)), (7, .slice A8 (l4 ++ y1).length cap8), (8, .int .i64 (x1))] (by kernel_rfl) (by kernel_rfl) (fun a1 => ?_)
   refine cW_region ?_
   refine wS_pure 3 [(8, .int .i64 (wr (x1 + 1))), (20, .int .i64 (wr (x1 + 1))), (19, .int .i64 (x1))] (by kernel_rfl) ?_
   refine wS_end (by rfl) ?_
   have hq : (some (Ctl.next ((l4 ++ y1, wr (x1 + 1)))) : Option (Ctl ((List (Int × Int)) × Int) ((List (Int × Int))))) = some _ := hm
   replace hq := someE hq
   subst hq
   exact eX_next hx1 (fun hst => ⟨l4 ++ y1, A8, cap8, fp5, wr (x1 + 1), rfl, Fr.of hst (by kernel_rfl), F3, F4, F9, G4, hB, hZ⟩)
  ·have hm := condF hb1 hm
   refine cW_exit ?_
   refine eX_then_exit ?_
   have hq : (some (Ctl.out l4) : Option (Ctl ((List (Int × Int)) × Int) ((List (Int × Int))))) = some _ := hm
   replace hq := someE hq
   subst hq
   refine eX_outX hx1 (fun hr2 => ?_)
   replace hr2 := hr2.symm
   subst hr2
   refine eX_block_hit ?_
   exact eX_J (fun hst => ⟨l4, A4, cap4, fp3, rfl, Fr.of hst (by kernel_rfl), F5, G2, hB, hZ⟩)
 ·rintro a' w6 ⟨l3, A3, cap3, fp2, hJ, hF2, F10, G5, hB, hZ⟩
  subst hJ
  refine Fr.goX hF2 (by kernel_rfl) ?_
  refine eX_then ?_
  refine cW_seq ?_
  refine cW_region ?_
  obtain ⟨_, hk2, hm⟩ := bindE hm
  replace hk2 := mkE hk2
  refine wS_make (enc := encB) (x0 := (false : Bool)) (d := 53) (t := 65) (T := 4) (k1 := .i64) (k2 := .i64) (m := 40000) (by kernel_rfl) el65 encB_ok (by rfl) hk2.1 hk2.2 ?_
  intro b2 w7 G6 F11 hc7
  have D3 : Dj fp2 [b2] := Dj.of F10.low (low1 G6)
  replace F10 := F10.chg hc7 Dj.nil
  replace hB := hB.inS hc7 inNil
  replace G6 := Nat.le_trans hZ G6
  replace G6 := low1 G6
  replace hZ := Nat.le_trans hZ hc7.size
  refine wS_pure 1 [(10, .slice (some ⟨b2, 0, none⟩) (List.replicate (Int.toNat 40000) ((false : Bool))).length (Int.toNat 40000))] (by kernel_rfl) ?_
  refine wS_end (by rfl) ?_
  refine eX_then ?_
  refine cW_seq ?_
  refine cW_region ?_
  refine wS_pure 1 [(11, .int .i64 (0))] (by kernel_rfl) ?_
  refine wS_end (by rfl) ?_
  refine eX_then ?_
  refine cW_seq ?_
  refine cW_seq ?_
  refine cW_region ?_
  refine wS_pure 1 [(12, .int .i64 (0))] (by kernel_rfl) ?_
  refine wS_end (by rfl) ?_
  refine eX_then ?_
  obtain ⟨r2, hr3, hm⟩ := bindE hm
  have hm2 := hm
  refine cW_cut (fun a' w' => ∃ x8 : Int, x8 = r2 ∧ Fr 84 [(11, .int .i64 (x8))] a' ∧ Chg [] w0 w' ∧ w0.heap.size ≤ w'.heap.size) ?_ ?_
  ·refine cW_block ?_
   refine cW_loop _ (fun (s2 : Int × Int × (List (Bool))) a' w' => ∃ x9 : Int, ∃ x10 : Int, ∃ l5 : List (Bool), (x9, x10, l5) = s2 ∧ Fr 84 [(7, .slice A3 (l3).length cap3), (10, .slice (some ⟨b2, 0, none⟩) (l5).length (Int.toNat 40000)), (11, .int .i64 (x9)), (12, .int .i64 (x10))] a' ∧ Ow 2 encII 34 w' fp2 A3 cap3 l3 ∧ Ow 1 encB 4 w' [b2] (some ⟨b2, 0, none⟩) (Int.toNat 40000) l5 ∧ Chg [] w0 w' ∧ w0.heap.size ≤ w'.heap.size) hr3 (fun hst => ⟨0, 0, List.replicate (Int.toNat 40000) ((false : Bool)), rfl, Fr.of hst (by kernel_rfl), F10, F11, hB, hZ⟩) ?_
   rintro _ c2 a' w8 ⟨x9, x10, l5, rfl, hF3, F12, F13, hB, hZ⟩ hx8
   refine Fr.goOn hF3 (by kernel_rfl) ?_
   have hm := hx8
   unfold m_spec_l05Used_s2 at hm
   refine cW_seq ?_
   refine cW_seq ?_
   refine cW_region ?_
   refine wS_pure 4 [(57, .bool (decide (x10 < (((l3).length : Int))))), (56, .int .i64 (((l3).length : Int))), (55, .slice A3 (l3).length cap3), (54, .int .i64 (x10))] (by kernel_rfl) ?_
   refine wS_end (by rfl) ?_
   refine eX_then ?_
   refine cW_cond (t := decide (x10 < (((l3).length : Int)))) (by kernel_rfl) (fun hb2 => ?_) (fun hb2 => ?_)
   ·have hm := condT hb2 hm
    refine cW_skip ?_
    refine eX_then ?_
    refine cW_seq ?_
    refine cW_block ?_
    obtain ⟨s3, hs1, hm⟩ := bindE hm
    refine cW_cut (fun a' w' => ∃ x11 : Int, ∃ l6 : List (Bool), (x11, l6) = s3 ∧ Fr 84 [(7, .slice A3 (l3).length cap3), (10, .slice (some ⟨b2, 0, none⟩) (l6).length (Int.toNat 40000)), (11, .int .i64 (x11)), (12, .int .i64 (x10))] a' ∧ Ow 2 encII 34 w' fp2 A3 cap3 l3 ∧ Ow 1 encB 4 w' [b2] (some ⟨b2, 0, none⟩) (Int.toNat 40000) l6 ∧ Chg [] w0 w' ∧ w0.heap.size ≤ w'.heap.size) ?_ ?_
    ·have hm := hs1
     refine cW_seq ?_
     refine cW_drawnTail [] 12 (by kernel_rfl) (by kernel_rfl) (fun w9 hc8 => ?_)
     replace F12 := F12.chg hc8 Dj.nil
     replace F13 := F13.chg hc8 Dj.nil
     replace hB := hB.inS hc8 inNil
     replace hZ := Nat.le_trans hZ hc8.size
     have hS := Chg.refl [] w9
     have Z4 := F12
     have Z5 := F13
     refine wH_take [0, 1] [1, 0] [(61, .int .i64 (x10)), (60, .slice A3 (l3).length cap3)] (by kernel_rfl) (qT (qT (qT (qB (qT (qL (qB (qT (qT qZ))))))))) (by kernel_rfl) ?_
     obtain ⟨x12, hx9, hm⟩ := bindE hm
     refine wH_idx (i := 2) (d := 62) (T := 26) (A := A3) (n := (l3).length) (cap := cap3) (kd := .i64) (m := x10) (by kernel_rfl) (qT (qT (qT (qB (qT (qL (qB (qT (qT qZ))))))))) (by kernel_rfl) (by kernel_rfl) sl26 ((F12.sl encII_ok).is hx9) ?_
     refine wH_take [3] [3, 2, 1, 0] [(63, .pointer (some (elA A3 2 (x10) 0)))] (by kernel_rfl) (qT (qT (qT (qB (qT (qL (qB (qT (qT qZ))))))))) (by kernel_rfl) ?_
     refine wH_load1 (i := 4) (d := 64) (T := 2) (ad := (elA A3 2 (x10) 0)) (v := .int .i64 (x12.1)) (by kernel_rfl) (qT (qT (qT (qB (qT (qL (qB (qT (qT qZ))))))))) (by kernel_rfl) (by kernel_rfl) vt2 (fun W hW => Sl.cell ((Z4.chg hW Dj.nil).sl encII_ok) hx9 0 (by rfl)) ?_
     refine wH_take [5, 6, 7, 8] [8, 7, 6, 5, 4, 3, 2, 1, 0] [(68, .int .i64 (x10)), (67, .slice A3 (l3).length cap3), (66, .int .i64 (wr ((wr (x12.1 * 2)) * 100))), (65, .int .i64 (wr (x12.1 * 2)))] (by kernel_rfl) (qT (qT (qT (qB (qT (qL (qB (qT (qT qZ))))))))) (by kernel_rfl) ?_
     obtain ⟨x13, hx10, hm⟩ := bindE hm
     refine wH_idx (i := 9) (d := 69) (T := 26) (A := A3) (n := (l3).length) (cap := cap3) (kd := .i64) (m := x10) (by kernel_rfl) (qT (qT (qT (qB (qT (qL (qB (qT (qT qZ))))))))) (by kernel_rfl) (by kernel_rfl) sl26 ((F12.sl encII_ok).is hx10) ?_
     refine wH_take [10] [10, 9, 8, 7, 6, 5, 4, 3, 2, 1, 0] [(70, .pointer (some (elA A3 2 (x10) 1)))] (by kernel_rfl) (qT (qT (qT (qB (qT (qL (qB (qT (qT qZ))))))))) (by kernel_rfl) ?_
     refine wH_load1 (i := 11) (d := 71) (T := 2) (ad := (elA A3 2 (x10) 1)) (v := .int .i64 (x13.2)) (by kernel_rfl) (qT (qT (qT (qB (qT (qL (qB (qT (qT qZ))))))))) (by kernel_rfl) (by kernel_rfl) vt2 (fun W hW => Sl.cell ((Z4.chg hW Dj.nil).sl encII_ok) hx10 1 (by rfl)) ?_
     refine wH_done (by kernel_rfl) ?_
     refine eX_tail ?_
     refine wS_pure 2 [(13, .int .i64 (wr ((wr ((wr (x12.1 * 2)) * 100)) + x13.2))), (72, .int .i64 (wr ((wr ((wr (x12.1 * 2)) * 100)) + x13.2)))] (by kernel_rfl) ?_
     refine wS_end (by rfl) ?_
     refine eX_then ?_
     refine cW_seq ?_
     refine cW_region ?_
     refine wS_pure 2 [(74, .int .i64 (wr ((wr ((wr (x12.1 * 2)) * 100)) + x13.2))), (73, .slice (some ⟨b2, 0, none⟩) (l5).length (Int.toNat 40000))] (by kernel_rfl) ?_
     obtain ⟨x14, hx11, hm⟩ := bindE hm
     refine wS_idx (d := 75) (T := 65) (A := (some ⟨b2, 0, none⟩)) (n := (l5).length) (cap := (Int.toNat 40000)) (kd := .i64) (m := wr ((wr ((wr (x12.1 * 2)) * 100)) + x13.2)) (by kernel_rfl) sl65 ((F13.sl encB_ok).is hx11) ?_
     refine wS_load1 (d := 76) (T := 4) (ad := (elA (some ⟨b2, 0, none⟩) 1 (wr ((wr ((wr (x12.1 * 2)) * 100)) + x13.2)) 0)) (v := .bool (x14)) (by kernel_rfl) vt4 (Sl.cell (F13.sl encB_ok) hx11 0 (by rfl)) ?_
     refine wS_pure 1 [(77, .bool (!x14))] (by kernel_rfl) ?_
     refine wS_end (by rfl) ?_
     refine eX_then ?_
     refine cW_prune [(7, .slice A3 (l3).length cap3), (10, .slice (some ⟨b2, 0, none⟩) (l5).length (Int.toNat 40000)), (11, .int .i64 (x9)), (12, .int .i64 (x10)), (13, .int .i64 (wr ((wr ((wr (x12.1 * 2)) * 100)) + x13.2))), (77, .bool (!x14))] (by kernel_rfl) (by kernel_rfl) (fun a2 => ?_)
     refine cW_cond (t := !x14) (by kernel_rfl) (fun hb3 => ?_) (fun hb3 => ?_)
     ·have hm := condT hb3 hm
      refine cW_seq ?_
      refine cW_region ?_
      refine wS_pure 2 [(79, .int .i64 (wr ((wr ((wr (x12.1 * 2)) * 100)) + x13.2))), (78, .slice (some ⟨b2, 0, none⟩) (l5).length (Int.toNat 40000))] (by kernel_rfl) ?_
      obtain ⟨x15, hx12, hm⟩ := bindE hm
      refine wS_idx (d := 80) (T := 65) (A := (some ⟨b2, 0, none⟩)) (n := (l5).length) (cap := (Int.toNat 40000)) (kd := .i64) (m := wr ((wr ((wr (x12.1 * 2)) * 100)) + x13.2)) (by kernel_rfl) sl65 ((F13.sl encB_ok).is hx12) ?_
      refine wS_storeEl (x := x15) true (T := 4) (U := 4) (cap := (Int.toNat 40000)) (j := 0) (A := (some ⟨b2, 0, none⟩)) (v := .bool (true)) (vs := [.bool (true)]) (m := wr ((wr ((wr (x12.1 * 2)) * 100)) + x13.2)) (by kernel_rfl) (by rfl) sz4 (by rfl) encB_ok F13 hx12 (by simp only [List.length_cons, List.length_nil]; omega) (by rfl) ?_
      intro w10 F14 hc9
      replace F12 := F12.chg hc9 D3
      replace hB := hB.inS hc9 (inLow G6)
      replace hZ := Nat.le_trans hZ hc9.size
      clear F13
      rewrite [show (l5).length = (l5.set (Int.toNat (wr ((wr ((wr (x12.1 * 2)) * 100)) + x13.2))) true).length from (List.length_set ..).symm]
      refine wS_end (by rfl) ?_
      refine eX_then ?_
      refine cW_region ?_
      refine wS_pure 3 [(11, .int .i64 (wr (x9 + 1))), (82, .int .i64 (wr (x9 + 1))), (81, .int .i64 (x9))] (by kernel_rfl) ?_
      refine wS_end (by rfl) ?_
      have hq : (some ((wr (x9 + 1), l5.set (Int.toNat (wr ((wr ((wr (x12.1 * 2)) * 100)) + x13.2))) true)) : Option (Int × (List (Bool)))) = some _ := hm
      replace hq := someE hq
      subst hq
      exact eX_J (fun hst => ⟨wr (x9 + 1), l5.set (Int.toNat (wr ((wr ((wr (x12.1 * 2)) * 100)) + x13.2))) true, rfl, Fr.of hst (by kernel_rfl), F12, F14, hB, hZ⟩)
     ·have hm := condF hb3 hm
      refine cW_skip ?_
      have hq : (some ((x9, l5)) : Option (Int × (List (Bool)))) = some _ := hm
      replace hq := someE hq
      subst hq
      exact eX_J (fun hst => ⟨x9, l5, rfl, Fr.of hst (by kernel_rfl), F12, F13, hB, hZ⟩)
    ·rintro a' w11 ⟨x11, l6, hJ, hF4, F15, F16, hB, hZ⟩
     subst hJ
     refine Fr.goX hF4 (by kernel_rfl) ?_
     refine eX_block ?_
     refine eX_then ?_
     refine cW_region ?_
     refine wS_pure 3 [(12, .int .i64 (wr (x10 + 1))), (59, .int .i64 (wr (x10 + 1))), (58, .int .i64 (x10))] (by kernel_rfl) ?_
     refine wS_end (by rfl) ?_
     have hq : (some (Ctl.next ((x11, wr (x10 + 1), l6))) : Option (Ctl (Int × Int × (List (Bool))) (Int))) = some _ := hm
     replace hq := someE hq
     subst hq
     exact eX_next hx8 (fun hst => ⟨x11, wr (x10 + 1), l6, rfl, Fr.of hst (by kernel_rfl), F15, F16, hB, hZ⟩)
   ·have hm := condF hb2 hm
    refine cW_exit ?_
    refine eX_then_exit ?_
    have hq : (some (Ctl.out x9) : Option (Ctl (Int × Int × (List (Bool))) (Int))) = some _ := hm
    replace hq := someE hq
    subst hq
    refine eX_outX hx8 (fun hr4 => ?_)
    replace hr4 := hr4.symm
    subst hr4
    refine eX_block_hit ?_
    exact eX_J (fun hst => ⟨x9, rfl, Fr.of hst (by kernel_rfl), hB, hZ⟩)
  ·rintro a' w12 ⟨x8, hJ, hF5, hB, hZ⟩
   subst hJ
   refine Fr.goX hF5 (by kernel_rfl) ?_
   refine eX_then ?_
   refine cW_seq ?_
   refine cW_region ?_
   refine wS_pure 2 [(6, .int .i64 (x8)), (83, .int .i64 (x8))] (by kernel_rfl) ?_
   refine wS_end (by rfl) ?_
   refine eX_then ?_
   refine cW_ret ?_
   have hq : (some x8 : Option ((Int))) = some _ := hm
   replace hq := someE hq
   subst hq
   refine eX_ret (vs := [.int .i64 (x8)]) [.tmp 6] (by rfl) ⟨by (show lkE _ _ _ = _); kernel_rfl, trivial⟩ ?_
   exact ⟨rfl, hB⟩

set_option maxRecDepth 100000 in
/-- spec.BendTree -/
theorem c_spec_BendTree {w0 : World} {l0 : List (Int × Int)} {A0 : Option Addr} {cap0 : Nat} {fp0 : List Nat} {r : (ByteArray) × (Int) × (Bool)} (hm : m_spec_BendTree l0 = some r) (F0 : Sl 2 encII w0 fp0 A0 l0) (K0 : (l0).length ≤ cap0) :
  Calls Try.prog 6 #[.slice A0 (l0).length cap0] w0 fun e w' => e = .returned (.tuple #[.string (r.1), .int .i64 (r.2.1), .bool (r.2.2)]) ∧ Chg [] w0 w' := by
 have L0 := F0.low
 have hB : Chg [] w0 w0 := Chg.refl _ _
 have hZ := Nat.le_refl w0.heap.size
 unfold m_spec_BendTree at hm
 refine enterE (N := 70) Try.func6 (by rfl) Try.ntmps6 (by simp) [(0, .slice A0 (l0).length cap0)] (by rfl) (by kernel_rfl) (fun a => ?_)
 refine cW_seq ?_
 refine cW_region ?_
 refine wS_pure 3 [(4, .bool (false)), (3, .int .i64 (0)), (2, .string (ByteArray.mk #[]))] (by kernel_rfl) ?_
 refine wS_end (by rfl) ?_
 refine eX_then ?_
 refine cW_seq ?_
 refine cW_seq ?_
 refine cW_region ?_
 refine wS_pure 1 [(15, .slice A0 (l0).length cap0)] (by kernel_rfl) ?_
 obtain ⟨y1, hy1, hm⟩ := bindE hm
 refine wS_calls (d := 16) (f := 18) (vs := [.slice A0 (l0).length cap0]) (by kernel_rfl) ent18 (c_spec_l05Few hy1 F0 K0) ?_
 rintro _ w1 ⟨rfl, hc1⟩
 replace F0 := F0.chg hc1 Dj.nil
 replace hB := hB.inS hc1 inNil
 replace hZ := Nat.le_trans hZ hc1.size
 refine ⟨.bool (y1), rfl, ?_⟩
 refine wS_pure 1 [(17, .bool (!y1))] (by kernel_rfl) ?_
 refine wS_end (by rfl) ?_
 refine eX_then ?_
 refine cW_cond (t := !y1) (by kernel_rfl) (fun hb1 => ?_) (fun hb1 => ?_)
 ·have hm := condT hb1 hm
  refine cW_seq ?_
  refine cW_region ?_
  refine wS_pure 3 [(4, .bool (false)), (3, .int .i64 (0)), (2, .string (ByteArray.mk #[]))] (by kernel_rfl) ?_
  refine wS_end (by rfl) ?_
  refine eX_then ?_
  refine cW_ret ?_
  refine eX_then_ret ?_
  have hq : (some ((ByteArray.mk #[], 0, false)) : Option ((ByteArray) × (Int) × (Bool))) = some _ := hm
  replace hq := someE hq
  subst hq
  refine eX_ret (vs := [.string (ByteArray.mk #[]), .int .i64 (0), .bool (false)]) [.tmp 2, .tmp 3, .tmp 4] (by rfl) ⟨by (show lkE _ _ _ = _); kernel_rfl, ⟨by (show lkE _ _ _ = _); kernel_rfl, ⟨by (show lkE _ _ _ = _); kernel_rfl, trivial⟩⟩⟩ ?_
  exact ⟨rfl, hB⟩
 ·have hm := condF hb1 hm
  refine cW_skip ?_
  refine eX_then ?_
  refine cW_seq ?_
  refine cW_region ?_
  refine wS_pure 1 [(19, .slice A0 (l0).length cap0)] (by kernel_rfl) ?_
  obtain ⟨y2, hy2, hm⟩ := bindE hm
  refine wS_calls (d := 20) (f := 19) (vs := [.slice A0 (l0).length cap0]) (by kernel_rfl) ent19 (c_spec_l05Tree hy2 F0) ?_
  rintro _ w2 ⟨A1, cap1, fp1, fr1, rfl, F1, G1, hc2⟩
  replace F0 := F0.chg hc2 Dj.nil
  replace hB := hB.inS hc2 inNil
  replace G1 := low_le hZ G1
  replace hZ := Nat.le_trans hZ hc2.size
  refine ⟨.tuple #[.slice A1 (y2.1).length cap1, .int .i64 (y2.2)], rfl, ?_⟩
  refine wS_pure 5 [(6, .int .i64 (y2.2)), (5, .slice A1 (y2.1).length cap1), (22, .int .i64 (y2.2)), (21, .slice A1 (y2.1).length cap1), (18, .tuple #[.slice A1 (y2.1).length cap1, .int .i64 (y2.2)])] (by kernel_rfl) ?_
  refine wS_end (by rfl) ?_
  refine eX_then ?_
  refine cW_seq ?_
  refine cW_region ?_
  refine wS_pure 1 [(23, .slice A1 (y2.1).length cap1)] (by kernel_rfl) ?_
  obtain ⟨y3, hy3, hm⟩ := bindE hm
  refine wS_calls (d := 24) (f := 20) (vs := [.slice A1 (y2.1).length cap1]) (by kernel_rfl) ent20 (c_spec_l05Pairs hy3 F1) ?_
  rintro _ w3 ⟨A3, cap3, fp2, rfl, F2, G2, hc3⟩
  have G3 := lowApp (low_le hZ G2) (low_inr G1)
  replace F0 := F0.chg hc3 Dj.nil
  replace F1 := F1.chg hc3 Dj.nil
  replace hB := hB.inS hc3 inNil
  replace hZ := Nat.le_trans hZ hc3.size
  refine ⟨.slice A3 (y3).length cap3, rfl, ?_⟩
  refine wS_pure 1 [(7, .slice A3 (y3).length cap3)] (by kernel_rfl) ?_
  refine wS_end (by rfl) ?_
  refine eX_then ?_
  refine cW_seq ?_
  refine cW_region ?_
  refine wS_pure 1 [(8, .int .i64 (0))] (by kernel_rfl) ?_
  refine wS_end (by rfl) ?_
  refine eX_then ?_
  refine cW_seq ?_
  refine cW_region ?_
  refine wS_pure 1 [(9, .int .i64 ((-1)))] (by kernel_rfl) ?_
  refine wS_end (by rfl) ?_
  refine eX_then ?_
  refine cW_seq ?_
  refine cW_seq ?_
  refine cW_region ?_
  refine wS_pure 1 [(10, .int .i64 (0))] (by kernel_rfl) ?_
  refine wS_end (by rfl) ?_
  refine eX_then ?_
  obtain ⟨r1, hr1, hm⟩ := bindE hm
  have hm1 := hm
  refine cW_cut (fun a' w' => ∃ x1 : Int, ∃ x2 : Int, (x1, x2) = r1 ∧ Fr 70 [(7, .slice A3 (y3).length cap3), (8, .int .i64 (x1)), (9, .int .i64 (x2))] a' ∧ OwR 1 encI 66 2 w' fp2 fr1 A3 cap3 y3 ∧ Chg [] w0 w' ∧ w0.heap.size ≤ w'.heap.size) ?_ ?_
  ·refine cW_block ?_
   refine cW_loop _ (fun (s1 : Int × Int × Int) a' w' => ∃ x3 : Int, ∃ x4 : Int, ∃ x5 : Int, (x3, x4, x5) = s1 ∧ Fr 70 [(0, .slice A0 (l0).length cap0), (7, .slice A3 (y3).length cap3), (8, .int .i64 (x5)), (9, .int .i64 (x3)), (10, .int .i64 (x4))] a' ∧ Sl 2 encII w' fp0 A0 l0 ∧ OwR 1 encI 66 2 w' fp2 fr1 A3 cap3 y3 ∧ Chg [] w0 w' ∧ w0.heap.size ≤ w'.heap.size) hr1 (fun hst => ⟨(-1), 0, 0, rfl, Fr.of hst (by kernel_rfl), F0, F2, hB, hZ⟩) ?_
   rintro _ c1 a' w4 ⟨x3, x4, x5, rfl, hF1, F3, F4, hB, hZ⟩ hx1
   refine Fr.goOn hF1 (by kernel_rfl) ?_
   have hm := hx1
   unfold m_spec_BendTree_s1 at hm
   refine cW_seq ?_
   refine cW_seq ?_
   refine cW_region ?_
   refine wS_pure 4 [(28, .int .u64 (wu (((y3).length : Int)))), (27, .int .i64 (((y3).length : Int))), (26, .slice A3 (y3).length cap3), (25, .int .i64 (x4))] (by kernel_rfl) ?_
   obtain ⟨u1, hu1, hm⟩ := bindE hm
   refine wS_shl (d := 29) (x := 1) (y := wu (((y3).length : Int))) (yk := .u64) (by kernel_rfl) (p0E hu1) ?_
   refine wS_pure 1 [(30, .bool (decide (x4 < (shlI 1 (wu (((y3).length : Int)))))))] (by kernel_rfl) ?_
   refine wS_end (by rfl) ?_
   refine eX_then ?_
   refine cW_cond (t := decide (x4 < (shlI 1 (wu (((y3).length : Int)))))) (by kernel_rfl) (fun hb2 => ?_) (fun hb2 => ?_)
   ·have hm := condT hb2 hm
    refine cW_skip ?_
    refine eX_then ?_
    refine cW_seq ?_
    refine cW_block ?_
    obtain ⟨s2, hs1, hm⟩ := bindE hm
    refine cW_cut (fun a' w' => ∃ x6 : Int, ∃ x7 : Int, (x6, x7) = s2 ∧ Fr 70 [(0, .slice A0 (l0).length cap0), (7, .slice A3 (y3).length cap3), (8, .int .i64 (x6)), (9, .int .i64 (x7)), (10, .int .i64 (x4))] a' ∧ Sl 2 encII w' fp0 A0 l0 ∧ OwR 1 encI 66 2 w' fp2 fr1 A3 cap3 y3 ∧ Chg [] w0 w' ∧ w0.heap.size ≤ w'.heap.size) ?_ ?_
    ·have hm := hs1
     refine cW_seq ?_
     refine cW_region ?_
     refine wS_pure 3 [(35, .int .i64 (x4)), (34, .slice A3 (y3).length cap3), (33, .slice A0 (l0).length cap0)] (by kernel_rfl) ?_
     obtain ⟨y4, hy4, hm⟩ := bindE hm
     refine wS_calls (d := 36) (f := 21) (vs := [.slice A0 (l0).length cap0, .slice A3 (y3).length cap3, .int .i64 (x4)]) (by kernel_rfl) ent21 (c_spec_l05Used hy4 F3 (F4.slr encI_ok)) ?_
     rintro _ w5 ⟨rfl, hc4⟩
     replace F3 := F3.chg hc4 Dj.nil
     replace F4 := F4.chg hc4 Dj.nil
     replace hB := hB.inS hc4 inNil
     replace hZ := Nat.le_trans hZ hc4.size
     refine ⟨.int .i64 (y4), rfl, ?_⟩
     refine wS_pure 1 [(11, .int .i64 (y4))] (by kernel_rfl) ?_
     refine wS_end (by rfl) ?_
     refine eX_then ?_
     refine cW_seq ?_
     refine cW_region ?_
     refine wS_pure 3 [(39, .bool (decide (x3 < 0))), (38, .bool (decide (x3 < 0))), (37, .int .i64 (x3))] (by kernel_rfl) ?_
     refine wS_bool (decide (x3 < 0)) (fun hb3 => ?_) (fun hb3 => ?_)
     ·have hm := condT hb3 hm
      rewrite [hb3]
      refine wS_pure 4 [(43, .bool (true)), (42, undef), (41, undef), (40, undef)] (by kernel_rfl) ?_
      refine wS_end (by rfl) ?_
      refine eX_then ?_
      refine cW_cond_t (by kernel_rfl) ?_
      refine cW_seq ?_
      refine cW_region ?_
      refine wS_pure 2 [(8, .int .i64 (x4)), (44, .int .i64 (x4))] (by kernel_rfl) ?_
      refine wS_end (by rfl) ?_
      refine eX_then ?_
      refine cW_prune [(0, .slice A0 (l0).length cap0), (7, .slice A3 (y3).length cap3), (8, .int .i64 (x4)), (10, .int .i64 (x4)), (11, .int .i64 (y4))] (by kernel_rfl) (by kernel_rfl) (fun a1 => ?_)
      refine cW_region ?_
      refine wS_pure 2 [(9, .int .i64 (y4)), (45, .int .i64 (y4))] (by kernel_rfl) ?_
      refine wS_end (by rfl) ?_
      have hq : (some ((x4, y4)) : Option (Int × Int)) = some _ := hm
      replace hq := someE hq
      subst hq
      exact eX_J (fun hst => ⟨x4, y4, rfl, Fr.of hst (by kernel_rfl), F3, F4, hB, hZ⟩)
     ·have hm := condF hb3 hm
      rewrite [hb3]
      refine wS_pure 4 [(43, .bool (decide (y4 < x3))), (42, .bool (decide (y4 < x3))), (41, .int .i64 (x3)), (40, .int .i64 (y4))] (by kernel_rfl) ?_
      refine wS_end (by rfl) ?_
      refine eX_then ?_
      refine cW_cond (t := decide (y4 < x3)) (by kernel_rfl) (fun hb4 => ?_) (fun hb4 => ?_)
      ·have hm := condT hb4 hm
       refine cW_seq ?_
       refine cW_region ?_
       refine wS_pure 2 [(8, .int .i64 (x4)), (44, .int .i64 (x4))] (by kernel_rfl) ?_
       refine wS_end (by rfl) ?_
       refine eX_then ?_
       refine cW_prune [(0, .slice A0 (l0).length cap0), (7, .slice A3 (y3).length cap3), (8, .int .i64 (x4)), (10, .int .i64 (x4)), (11, .int .i64 (y4))] (by kernel_rfl) (by kernel_rfl) (fun a2 => ?_)
       refine cW_region ?_
       refine wS_pure 2 [(9, .int .i64 (y4)), (45, .int .i64 (y4))] (by kernel_rfl) ?_
       refine wS_end (by rfl) ?_
       have hq : (some ((x4, y4)) : Option (Int × Int)) = some _ := hm
       replace hq := someE hq
       subst hq
       exact eX_J (fun hst => ⟨x4, y4, rfl, Fr.of hst (by kernel_rfl), F3, F4, hB, hZ⟩)
      ·have hm := condF hb4 hm
       refine cW_skip ?_
       have hq : (some ((x5, x3)) : Option (Int × Int)) = some _ := hm
       replace hq := someE hq
       subst hq
       exact eX_J (fun hst => ⟨x5, x3, rfl, Fr.of hst (by kernel_rfl), F3, F4, hB, hZ⟩)
    ·rintro a' w6 ⟨x6, x7, hJ, hF2, F5, F6, hB, hZ⟩
     subst hJ
     refine Fr.goX hF2 (by kernel_rfl) ?_
     refine eX_block ?_
     refine eX_then ?_
     refine cW_region ?_
     refine wS_pure 3 [(10, .int .i64 (wr (x4 + 1))), (32, .int .i64 (wr (x4 + 1))), (31, .int .i64 (x4))] (by kernel_rfl) ?_
     refine wS_end (by rfl) ?_
     have hq : (some (Ctl.next ((x7, wr (x4 + 1), x6))) : Option (Ctl (Int × Int × Int) (Int × Int))) = some _ := hm
     replace hq := someE hq
     subst hq
     exact eX_next hx1 (fun hst => ⟨x7, wr (x4 + 1), x6, rfl, Fr.of hst (by kernel_rfl), F5, F6, hB, hZ⟩)
   ·have hm := condF hb2 hm
    refine cW_exit ?_
    refine eX_then_exit ?_
    have hq : (some (Ctl.out ((x5, x3))) : Option (Ctl (Int × Int × Int) (Int × Int))) = some _ := hm
    replace hq := someE hq
    subst hq
    refine eX_outX hx1 (fun hr2 => ?_)
    replace hr2 := hr2.symm
    subst hr2
    refine eX_block_hit ?_
    exact eX_J (fun hst => ⟨x5, x3, rfl, Fr.of hst (by kernel_rfl), F4, hB, hZ⟩)
  ·rintro a' w7 ⟨x1, x2, hJ, hF3, F7, hB, hZ⟩
   subst hJ
   refine Fr.goX hF3 (by kernel_rfl) ?_
   refine eX_then ?_
   refine cW_seq ?_
   refine cW_region ?_
   refine wS_bs0 (α := Int) (enc := encU) (d := 46) (t := 30) (T := 5) (by kernel_rfl) el30 ?_
   intro b1 w8 G4 F8 hc5
   have D1 : Dj (fp2 ++ fr1) [b1] := Dj.of F7.low (low1 G4)
   replace F7 := F7.chg hc5 Dj.nil
   replace hB := hB.inS hc5 inNil
   replace G4 := Nat.le_trans hZ G4
   replace G4 := low1 G4
   replace hZ := Nat.le_trans hZ hc5.size
   refine wS_pure 1 [(12, .slice (some ⟨b1, 0, none⟩) (([] : List (Int))).length 0)] (by kernel_rfl) ?_
   refine wS_end (by rfl) ?_
   refine eX_then ?_
   refine cW_seq ?_
   refine cW_seq ?_
   refine cW_region ?_
   refine wS_pure 1 [(13, .int .i64 (0))] (by kernel_rfl) ?_
   refine wS_end (by rfl) ?_
   refine eX_then ?_
   obtain ⟨r2, hr3, hm⟩ := bindE hm
   have hm2 := hm
   refine cW_cut (fun a' w' => ∃ l1 : List (Int), ∃ A4 : Option Addr, ∃ cap4 : Nat, ∃ fp3 : List Nat, l1 = r2 ∧ Fr 70 [(9, .int .i64 (x2)), (12, .slice A4 (l1).length cap4)] a' ∧ Ow 1 encU 5 w' fp3 A4 cap4 l1 ∧ (∀ x ∈ fp3, w0.heap.size ≤ x) ∧ Chg [] w0 w' ∧ w0.heap.size ≤ w'.heap.size) ?_ ?_
   ·refine cW_block ?_
    refine cW_loop _ (fun (s3 : (List (Int)) × Int) a' w' => ∃ l3 : List (Int), ∃ A5 : Option Addr, ∃ cap5 : Nat, ∃ fp4 : List Nat, ∃ x8 : Int, (l3, x8) = s3 ∧ Fr 70 [(7, .slice A3 (y3).length cap3), (8, .int .i64 (x1)), (9, .int .i64 (x2)), (12, .slice A5 (l3).length cap5), (13, .int .i64 (x8))] a' ∧ OwR 1 encI 66 2 w' fp2 fr1 A3 cap3 y3 ∧ Ow 1 encU 5 w' fp4 A5 cap5 l3 ∧ (∀ x ∈ fp4, w0.heap.size ≤ x) ∧ Dj (fp2 ++ fr1) fp4 ∧ Chg [] w0 w' ∧ w0.heap.size ≤ w'.heap.size) hr3 (fun hst => ⟨([] : List (Int)), (some ⟨b1, 0, none⟩), 0, [b1], 0, rfl, Fr.of hst (by kernel_rfl), F7, F8, G4, D1, hB, hZ⟩) ?_
    rintro _ c2 a' w9 ⟨l3, A5, cap5, fp4, x8, rfl, hF4, F9, F10, G5, D2, hB, hZ⟩ hx2
    refine Fr.goOn hF4 (by kernel_rfl) ?_
    have hm := hx2
    unfold m_spec_BendTree_s2 at hm
    refine cW_seq ?_
    refine cW_seq ?_
    refine cW_region ?_
    refine wS_pure 4 [(50, .bool (decide (x8 < (((y3).length : Int))))), (49, .int .i64 (((y3).length : Int))), (48, .slice A3 (y3).length cap3), (47, .int .i64 (x8))] (by kernel_rfl) ?_
    refine wS_end (by rfl) ?_
    refine eX_then ?_
    refine cW_cond (t := decide (x8 < (((y3).length : Int)))) (by kernel_rfl) (fun hb5 => ?_) (fun hb5 => ?_)
    ·have hm := condT hb5 hm
     refine cW_skip ?_
     refine eX_then ?_
     refine cW_seq ?_
     refine cW_block ?_
     obtain ⟨s4, hs2, hm⟩ := bindE hm
     refine cW_cut (fun a' w' => ∃ l4 : List (Int), ∃ A6 : Option Addr, ∃ cap6 : Nat, ∃ fp5 : List Nat, l4 = s4 ∧ Fr 70 [(7, .slice A3 (y3).length cap3), (8, .int .i64 (x1)), (9, .int .i64 (x2)), (12, .slice A6 (l4).length cap6), (13, .int .i64 (x8))] a' ∧ OwR 1 encI 66 2 w' fp2 fr1 A3 cap3 y3 ∧ Ow 1 encU 5 w' fp5 A6 cap6 l4 ∧ (∀ x ∈ fp5, w0.heap.size ≤ x) ∧ Dj (fp2 ++ fr1) fp5 ∧ Chg [] w0 w' ∧ w0.heap.size ≤ w'.heap.size) ?_ ?_
     ·have hm := hs2
      refine cW_seq ?_
      refine cW_region ?_
      refine wS_pure 1 [(14, .int .u8 (120))] (by kernel_rfl) ?_
      refine wS_end (by rfl) ?_
      refine eX_then ?_
      refine cW_seq ?_
      obtain ⟨s5, hs3, hm⟩ := bindE hm
      refine cW_cut (fun a' w' => ∃ x9 : Int, x9 = s5 ∧ Fr 70 [(7, .slice A3 (y3).length cap3), (8, .int .i64 (x1)), (9, .int .i64 (x2)), (12, .slice A5 (l3).length cap5), (13, .int .i64 (x8)), (14, .int .u8 (x9))] a' ∧ OwR 1 encI 66 2 w' fp2 fr1 A3 cap3 y3 ∧ Ow 1 encU 5 w' fp4 A5 cap5 l3 ∧ Chg [] w0 w' ∧ w0.heap.size ≤ w'.heap.size) ?_ ?_
      ·have hm := hs3
       refine cW_seq ?_
       refine cW_region ?_
       refine wS_pure 7 [(59, .int .u64 (wu (wr ((wr ((((y3).length : Int)) - 1)) - x8)))), (58, .int .i64 (wr ((wr ((((y3).length : Int)) - 1)) - x8))), (57, .int .i64 (x8)), (56, .int .i64 (wr ((((y3).length : Int)) - 1))), (55, .int .i64 (((y3).length : Int))), (54, .slice A3 (y3).length cap3), (53, .int .i64 (x1))] (by kernel_rfl) ?_
       obtain ⟨u2, hu2, hm⟩ := bindE hm
       refine wS_shr (d := 60) (x := x1) (y := wu (wr ((wr ((((y3).length : Int)) - 1)) - x8))) (yk := .u64) (by kernel_rfl) (p0E hu2) ?_
       refine wS_pure 2 [(62, .bool ((andI (shrI x1 (wu (wr ((wr ((((y3).length : Int)) - 1)) - x8)))) 1) == 1)), (61, .int .i64 (andI (shrI x1 (wu (wr ((wr ((((y3).length : Int)) - 1)) - x8)))) 1))] (by kernel_rfl) ?_
       refine wS_end (by rfl) ?_
       refine eX_then ?_
       refine cW_cond (t := (andI (shrI x1 (wu (wr ((wr ((((y3).length : Int)) - 1)) - x8)))) 1) == 1) (by kernel_rfl) (fun hb6 => ?_) (fun hb6 => ?_)
       ·have hm := condT hb6 hm
        refine cW_region ?_
        refine wS_pure 1 [(14, .int .u8 (121))] (by kernel_rfl) ?_
        refine wS_end (by rfl) ?_
        have hq : (some 121 : Option (Int)) = some _ := hm
        replace hq := someE hq
        subst hq
        exact eX_J (fun hst => ⟨121, rfl, Fr.of hst (by kernel_rfl), F9, F10, hB, hZ⟩)
       ·have hm := condF hb6 hm
        refine cW_skip ?_
        have hq : (some 120 : Option (Int)) = some _ := hm
        replace hq := someE hq
        subst hq
        exact eX_J (fun hst => ⟨120, rfl, Fr.of hst (by kernel_rfl), F9, F10, hB, hZ⟩)
      ·rintro a' w10 ⟨x9, hJ, hF5, F11, F12, hB, hZ⟩
       subst hJ
       refine Fr.goX hF5 (by kernel_rfl) ?_
       refine eX_then ?_
       refine cW_region ?_
       refine wS_pure 2 [(64, .int .u8 (x9)), (63, .slice A5 (l3).length cap5)] (by kernel_rfl) ?_
       refine wS_bs (enc := encU) ([x9] : List (Int)) [.int .u8 (x9)] (d := 65) (t := 30) (T := 5) (n := 1) (ps := [(0, .int .u8 (x9))]) (by kernel_rfl) el30 encU_ok (by rfl) (by omega) (by omega) (by kernel_rfl) (by rfl) ?_
       intro b2 w11 G6 F13 hc6
       have D3 : Dj (fp2 ++ fr1) [b2] := Dj.of F11.low (low1 G6)
       have D4 : Dj fp4 [b2] := Dj.of F12.low (low1 G6)
       replace F11 := F11.chg hc6 Dj.nil
       replace F12 := F12.chg hc6 Dj.nil
       replace hB := hB.inS hc6 inNil
       replace G6 := Nat.le_trans hZ G6
       replace G6 := low1 G6
       replace hZ := Nat.le_trans hZ hc6.size
       obtain ⟨_, hk1, hm⟩ := bindE hm
       replace hk1 := apE hk1
       refine wS_append (enc := encU) (l := (l3 : List (Int))) (l2 := (([x9] : List (Int)) : List (Int))) (d := 66) (t := 30) (T := 5) (A := A5) (A2 := (some ⟨b2, 0, none⟩)) (cap := cap5) (cap2 := 1) (by kernel_rfl) el30 encU_ok F12 (F13.sl encU_ok) (by rfl) hk1 ?_
       intro w12 fp6 A7 cap7 F14 hc7 hp1
       have G7 := low_ap G5 hZ hp1
       have D5 : Dj (fp2 ++ fr1) fp6 := Dj.ap D2 F11.low hp1
       have D6 : Dj [b2] fp6 := Dj.ap (D4).symm F13.low hp1
       replace F11 := F11.chg hc7 D2
       replace F13 := F13.chg hc7 (D4).symm
       replace hB := hB.inS hc7 (inLow G5)
       replace hZ := Nat.le_trans hZ hc7.size
       refine wS_pure 1 [(12, .slice A7 (l3 ++ (([x9] : List (Int)))).length cap7)] (by kernel_rfl) ?_
       refine wS_end (by rfl) ?_
       have hq : (some (l3 ++ (([x9] : List (Int)))) : Option ((List (Int)))) = some _ := hm
       replace hq := someE hq
       subst hq
       exact eX_J (fun hst => ⟨l3 ++ (([x9] : List (Int))), A7, cap7, fp6, rfl, Fr.of hst (by kernel_rfl), F11, F14, G7, D5, hB, hZ⟩)
     ·rintro a' w13 ⟨l4, A6, cap6, fp5, hJ, hF6, F15, F16, G8, D7, hB, hZ⟩
      subst hJ
      refine Fr.goX hF6 (by kernel_rfl) ?_
      refine eX_block ?_
      refine eX_then ?_
      refine cW_region ?_
      refine wS_pure 3 [(13, .int .i64 (wr (x8 + 1))), (52, .int .i64 (wr (x8 + 1))), (51, .int .i64 (x8))] (by kernel_rfl) ?_
      refine wS_end (by rfl) ?_
      have hq : (some (Ctl.next ((l4, wr (x8 + 1)))) : Option (Ctl ((List (Int)) × Int) ((List (Int))))) = some _ := hm
      replace hq := someE hq
      subst hq
      exact eX_next hx2 (fun hst => ⟨l4, A6, cap6, fp5, wr (x8 + 1), rfl, Fr.of hst (by kernel_rfl), F15, F16, G8, D7, hB, hZ⟩)
    ·have hm := condF hb5 hm
     refine cW_exit ?_
     refine eX_then_exit ?_
     have hq : (some (Ctl.out l3) : Option (Ctl ((List (Int)) × Int) ((List (Int))))) = some _ := hm
     replace hq := someE hq
     subst hq
     refine eX_outX hx2 (fun hr4 => ?_)
     replace hr4 := hr4.symm
     subst hr4
     refine eX_block_hit ?_
     exact eX_J (fun hst => ⟨l3, A5, cap5, fp4, rfl, Fr.of hst (by kernel_rfl), F10, G5, hB, hZ⟩)
   ·rintro a' w14 ⟨l1, A4, cap4, fp3, hJ, hF7, F17, G9, hB, hZ⟩
    subst hJ
    refine Fr.goX hF7 (by kernel_rfl) ?_
    refine eX_then ?_
    refine cW_seq ?_
    refine cW_region ?_
    refine wS_pure 1 [(67, .slice A4 (l1).length cap4)] (by kernel_rfl) ?_
    refine wS_str (l := (l1 : List (Int))) (d := 68) (s := 30) (t := 9) (A := A4) (cap := cap4) (by kernel_rfl) st30_9 (F17.sl encU_ok) ?_
    refine wS_pure 4 [(4, .bool (true)), (3, .int .i64 (x2)), (2, .string (bstr (l1 : List (Int)))), (69, .int .i64 (x2))] (by kernel_rfl) ?_
    refine wS_end (by rfl) ?_
    refine eX_then ?_
    refine cW_ret ?_
    have hq : (some ((bstr (l1 : List (Int)), x2, true)) : Option ((ByteArray) × (Int) × (Bool))) = some _ := hm
    replace hq := someE hq
    subst hq
    refine eX_ret (vs := [.string (bstr (l1 : List (Int))), .int .i64 (x2), .bool (true)]) [.tmp 2, .tmp 3, .tmp 4] (by rfl) ⟨by (show lkE _ _ _ = _); kernel_rfl, ⟨by (show lkE _ _ _ = _); kernel_rfl, ⟨by (show lkE _ _ _ = _); kernel_rfl, trivial⟩⟩⟩ ?_
    exact ⟨rfl, hB⟩

set_option maxRecDepth 100000 in
/-- laws.toPoint -/
theorem c_laws_toPoint {w0 : World} {p0_0 : Int} {p0_1 : Int} {r : (Int × Int)} (hm : m_laws_toPoint p0_0 p0_1 = some r)  :
  Calls Try.prog 22 #[.agg #[.int .i64 (p0_0), .int .i64 (p0_1)]] w0 fun e w' => e = .returned (.agg #[.int .i64 (r.1), .int .i64 (r.2)]) ∧ Chg [] w0 w' := by
 have hB : Chg [] w0 w0 := Chg.refl _ _
 have hZ := Nat.le_refl w0.heap.size
 unfold m_laws_toPoint at hm
 refine enterE (N := 11) Try.func22 (by rfl) Try.ntmps22 (by simp) [(0, .agg #[.int .i64 (p0_0), .int .i64 (p0_1)])] (by rfl) (by kernel_rfl) (fun a => ?_)
 refine cW_seq ?_
 refine cW_region ?_
 refine wS_box (d := 1) (T := 52) (x := .agg #[.int .i64 (p0_0), .int .i64 (p0_1)]) (by kernel_rfl) ?_
 intro b1 w1 G1 F1 hc1
 replace F1 : Cl w1 b1 52 [.int .i64 (p0_0), .int .i64 (p0_1)] := F1
 replace hB := hB.inS hc1 inNil
 replace G1 := Nat.le_trans hZ G1
 replace hZ := Nat.le_trans hZ hc1.size
 refine wS_alloc (d := 2) (T := 34) (z := .agg #[.int .i64 (0), .int .i64 (0)]) (by kernel_rfl) (by kernel_rfl) ?_
 intro b2 w2 G2 F2 hc2
 replace F2 : Cl w2 b2 34 [.int .i64 (0), .int .i64 (0)] := F2
 have D1 : Dj [b1] [b2] := Dj.of (lt1 F1.lt) (low1 G2)
 replace F1 := F1.chg hc2 notNil
 replace hB := hB.inS hc2 inNil
 replace G2 := Nat.le_trans hZ G2
 replace hZ := Nat.le_trans hZ hc2.size
 refine wS_end (by rfl) ?_
 refine eX_then ?_
 refine cW_seq ?_
 refine cW_region ?_
 refine wS_alloc (d := 3) (T := 34) (z := .agg #[.int .i64 (0), .int .i64 (0)]) (by kernel_rfl) (by kernel_rfl) ?_
 intro b3 w3 G3 F3 hc3
 replace F3 : Cl w3 b3 34 [.int .i64 (0), .int .i64 (0)] := F3
 have D2 : Dj [b1] [b3] := Dj.of (lt1 F1.lt) (low1 G3)
 have D3 : Dj [b2] [b3] := Dj.of (lt1 F2.lt) (low1 G3)
 replace F1 := F1.chg hc3 notNil
 replace F2 := F2.chg hc3 notNil
 replace hB := hB.inS hc3 inNil
 replace G3 := Nat.le_trans hZ G3
 replace hZ := Nat.le_trans hZ hc3.size
 refine wS_end (by rfl) ?_
 refine eX_then ?_
 refine cW_seq ?_
 refine cW_region ?_
 refine wS_pure 1 [(4, .pointer (some ⟨b1, 0, none⟩))] (by kernel_rfl) ?_
 refine wS_load1 (d := 5) (T := 2) (ad := ⟨b1, 0, none⟩) (v := .int .i64 (p0_0)) (by kernel_rfl) vt2 ((F1).cell 0) ?_
 refine wS_pure 1 [(6, .pointer (some ⟨b3, 0, none⟩))] (by kernel_rfl) ?_
 refine wS_store (T := 2) (g := b3) (o := 0) (ad := ⟨b3, 0, none⟩) (v := .int .i64 (p0_0)) (vs := [.int .i64 (p0_0)]) (by kernel_rfl) (by rfl) sz2 (by rfl) (by rfl) F3 (by simp only [List.length_cons, List.length_nil]; omega) ?_
 intro w4 F4 hc4
 replace F1 := F1.chg hc4 (dj1 D2)
 replace F2 := F2.chg hc4 (dj1 D3)
 replace hB := hB.inS hc4 (inLow (low1 G3))
 replace hZ := Nat.le_trans hZ hc4.size
 replace F4 : Cl w4 b3 34 [.int .i64 (p0_0), .int .i64 (0)] := F4
 clear F3
 refine wS_end (by rfl) ?_
 refine eX_then ?_
 refine cW_seq ?_
 refine cW_region ?_
 refine wS_pure 1 [(7, .pointer (some ⟨b1, 1, none⟩))] (by kernel_rfl) ?_
 refine wS_load1 (d := 8) (T := 2) (ad := ⟨b1, 1, none⟩) (v := .int .i64 (p0_1)) (by kernel_rfl) vt2 ((F1).cell 1) ?_
 refine wS_pure 1 [(9, .pointer (some ⟨b3, 1, none⟩))] (by kernel_rfl) ?_
 refine wS_store (T := 2) (g := b3) (o := 1) (ad := ⟨b3, 1, none⟩) (v := .int .i64 (p0_1)) (vs := [.int .i64 (p0_1)]) (by kernel_rfl) (by rfl) sz2 (by rfl) (by rfl) F4 (by simp only [List.length_cons, List.length_nil]; omega) ?_
 intro w5 F5 hc5
 replace F1 := F1.chg hc5 (dj1 D2)
 replace F2 := F2.chg hc5 (dj1 D3)
 replace hB := hB.inS hc5 (inLow (low1 G3))
 replace hZ := Nat.le_trans hZ hc5.size
 replace F5 : Cl w5 b3 34 [.int .i64 (p0_0), .int .i64 (p0_1)] := F5
 clear F4
 refine wS_end (by rfl) ?_
 refine eX_then ?_
 refine cW_seq ?_
 refine cW_region ?_
 refine wS_loadA (d := 10) (T := 34) (ad := ⟨b3, 0, none⟩) (vs := [.int .i64 (p0_0), .int .i64 (p0_1)]) (by kernel_rfl) vt34 (fun i u hu => box_cells F5 0 hu (by rfl)) ?_
 refine wS_store (T := 34) (g := b2) (o := 0) (ad := ⟨b2, 0, none⟩) (v := .agg #[.int .i64 (p0_0), .int .i64 (p0_1)]) (vs := [.int .i64 (p0_0), .int .i64 (p0_1)]) (by kernel_rfl) (by rfl) sz34 (by rfl) (by rfl) F2 (by simp only [List.length_cons, List.length_nil]; omega) ?_
 intro w6 F6 hc6
 replace F1 := F1.chg hc6 (dj1 D1)
 replace F5 := F5.chg hc6 (dj1 (D3).symm)
 replace hB := hB.inS hc6 (inLow (low1 G2))
 replace hZ := Nat.le_trans hZ hc6.size
 replace F6 : Cl w6 b2 34 [.int .i64 (p0_0), .int .i64 (p0_1)] := F6
 clear F2
 refine wS_end (by rfl) ?_
 refine eX_then ?_
 refine cW_ret ?_
 have hq : (some ((p0_0, p0_1)) : Option ((Int × Int))) = some _ := hm
 replace hq := someE hq
 subst hq
 refine eX_ret (vs := [.agg #[.int .i64 (p0_0), .int .i64 (p0_1)]]) [.cell 2 34] (by rfl) ⟨⟨⟨b2, 0, none⟩, by kernel_rfl, run_loadVarA (vs := [.int .i64 (p0_0), .int .i64 (p0_1)]) vt34 (fun i u hu => by exact box_cells F6 0 hu (by rfl))⟩, trivial⟩ ?_
 exact ⟨rfl, hB⟩

set_option maxRecDepth 100000 in
/-- laws.toPointS -/
theorem c_laws_toPointS {w0 : World} {l0 : List (Int × Int)} {A0 : Option Addr} {cap0 : Nat} {fp0 : List Nat} {r : (List (Int × Int))} (hm : m_laws_toPointS l0 = some r) (F0 : Sl 2 encII w0 fp0 A0 l0) :
  Calls Try.prog 7 #[.slice A0 (l0).length cap0] w0 fun e w' => ∃ A100 cap100 fp100, e = .returned (.slice A100 (r).length cap100) ∧ Ow 2 encII 34 w' fp100 A100 cap100 r ∧ (∀ x ∈ fp100, w0.heap.size ≤ x) ∧ Chg [] w0 w' := by
 have L0 := F0.low
 have hB : Chg [] w0 w0 := Chg.refl _ _
 have hZ := Nat.le_refl w0.heap.size
 unfold m_laws_toPointS at hm
 refine enterE (N := 23) Try.func7 (by rfl) Try.ntmps7 (by simp) [(0, .slice A0 (l0).length cap0)] (by rfl) (by kernel_rfl) (fun a => ?_)
 refine cW_seq ?_
 refine cW_region ?_
 refine wS_pure 1 [(2, .slice none 0 0)] (by kernel_rfl) ?_
 refine wS_end (by rfl) ?_
 refine eX_then ?_
 refine cW_seq ?_
 refine cW_region ?_
 refine wS_pure 2 [(6, .int .i64 (((l0).length : Int))), (5, .slice A0 (l0).length cap0)] (by kernel_rfl) ?_
 obtain ⟨_, hk1, hm⟩ := bindE hm
 replace hk1 := mkE hk1
 refine wS_make (enc := encII) (x0 := ((0, 0) : Int × Int)) (d := 7) (t := 26) (T := 34) (k1 := .i64) (k2 := .i64) (m := ((l0).length : Int)) (by kernel_rfl) el26 encII_ok (by rfl) hk1.1 hk1.2 ?_
 intro b1 w1 G1 F1 hc1
 replace F0 := F0.chg hc1 Dj.nil
 replace hB := hB.inS hc1 inNil
 replace G1 := Nat.le_trans hZ G1
 replace G1 := low1 G1
 replace hZ := Nat.le_trans hZ hc1.size
 refine wS_pure 1 [(3, .slice (some ⟨b1, 0, none⟩) (List.replicate (Int.toNat (((l0).length : Int))) (((0, 0) : Int × Int))).length (Int.toNat (((l0).length : Int))))] (by kernel_rfl) ?_
 refine wS_end (by rfl) ?_
 refine eX_then ?_
 refine cW_seq ?_
 refine cW_seq ?_
 refine cW_region ?_
 refine wS_pure 1 [(4, .int .i64 (0))] (by kernel_rfl) ?_
 refine wS_end (by rfl) ?_
 refine eX_then ?_
 obtain ⟨r1, hr1, hm⟩ := bindE hm
 have hm1 := hm
 refine cW_cut (fun a' w' => ∃ l1 : List (Int × Int), l1 = r1 ∧ Fr 23 [(3, .slice (some ⟨b1, 0, none⟩) (l1).length (Int.toNat (((l0).length : Int))))] a' ∧ Ow 2 encII 34 w' [b1] (some ⟨b1, 0, none⟩) (Int.toNat (((l0).length : Int))) l1 ∧ Chg [] w0 w' ∧ w0.heap.size ≤ w'.heap.size) ?_ ?_
 ·refine cW_block ?_
  refine cW_loop _ (fun (s1 : Int × (List (Int × Int))) a' w' => ∃ x1 : Int, ∃ l2 : List (Int × Int), (x1, l2) = s1 ∧ Fr 23 [(0, .slice A0 (l0).length cap0), (3, .slice (some ⟨b1, 0, none⟩) (l2).length (Int.toNat (((l0).length : Int)))), (4, .int .i64 (x1))] a' ∧ Sl 2 encII w' fp0 A0 l0 ∧ Ow 2 encII 34 w' [b1] (some ⟨b1, 0, none⟩) (Int.toNat (((l0).length : Int))) l2 ∧ Chg [] w0 w' ∧ w0.heap.size ≤ w'.heap.size) hr1 (fun hst => ⟨0, List.replicate (Int.toNat (((l0).length : Int))) (((0, 0) : Int × Int)), rfl, Fr.of hst (by kernel_rfl), F0, F1, hB, hZ⟩) ?_
  rintro _ c1 a' w2 ⟨x1, l2, rfl, hF1, F2, F3, hB, hZ⟩ hx1
  refine Fr.goOn hF1 (by kernel_rfl) ?_
  have hm := hx1
  unfold m_laws_toPointS_s1 at hm
  refine cW_seq ?_
  refine cW_seq ?_
  refine cW_region ?_
  refine wS_pure 4 [(11, .bool (decide (x1 < (((l0).length : Int))))), (10, .int .i64 (((l0).length : Int))), (9, .slice A0 (l0).length cap0), (8, .int .i64 (x1))] (by kernel_rfl) ?_
  refine wS_end (by rfl) ?_
  refine eX_then ?_
  refine cW_cond (t := decide (x1 < (((l0).length : Int)))) (by kernel_rfl) (fun hb1 => ?_) (fun hb1 => ?_)
  ·have hm := condT hb1 hm
   refine cW_skip ?_
   refine eX_then ?_
   refine cW_seq ?_
   refine cW_block ?_
   refine cW_region ?_
   refine wS_pure 4 [(17, .int .i64 (x1)), (16, .slice A0 (l0).length cap0), (15, .int .i64 (x1)), (14, .slice (some ⟨b1, 0, none⟩) (l2).length (Int.toNat (((l0).length : Int))))] (by kernel_rfl) ?_
   obtain ⟨x2, hx2, hm⟩ := bindE hm
   refine wS_idx (d := 18) (T := 22) (A := A0) (n := (l0).length) (cap := cap0) (kd := .i64) (m := x1) (by kernel_rfl) sl22 (F2.is hx2) ?_
   refine wS_loadA (d := 19) (T := 52) (ad := (elA A0 2 (x1) 0)) (vs := [.int .i64 (x2.1), .int .i64 (x2.2)]) (by kernel_rfl) vt52 (fun i u hu => Sl.cells_at F2 hx2 0 hu (by rfl)) ?_
   obtain ⟨y1, hy1, hm⟩ := bindE hm
   refine wS_calls (d := 20) (f := 22) (vs := [.agg #[.int .i64 (x2.1), .int .i64 (x2.2)]]) (by kernel_rfl) ent22 (c_laws_toPoint hy1) ?_
   rintro _ w3 ⟨rfl, hc2⟩
   replace F2 := F2.chg hc2 Dj.nil
   replace F3 := F3.chg hc2 Dj.nil
   replace hB := hB.inS hc2 inNil
   replace hZ := Nat.le_trans hZ hc2.size
   refine ⟨.agg #[.int .i64 (y1.1), .int .i64 (y1.2)], rfl, ?_⟩
   obtain ⟨x3, hx3, hm⟩ := bindE hm
   refine wS_idx (d := 21) (T := 26) (A := (some ⟨b1, 0, none⟩)) (n := (l2).length) (cap := (Int.toNat (((l0).length : Int)))) (kd := .i64) (m := x1) (by kernel_rfl) sl26 ((F3.sl encII_ok).is hx3) ?_
   refine wS_storeEl (x := x3) ((y1.1, y1.2)) (T := 34) (U := 34) (cap := (Int.toNat (((l0).length : Int)))) (j := 0) (A := (some ⟨b1, 0, none⟩)) (v := .agg #[.int .i64 (y1.1), .int .i64 (y1.2)]) (vs := [.int .i64 (y1.1), .int .i64 (y1.2)]) (m := x1) (by kernel_rfl) (by rfl) sz34 (by rfl) encII_ok F3 hx3 (by simp only [List.length_cons, List.length_nil]; omega) (by rfl) ?_
   intro w4 F4 hc3
   replace F2 := F2.chg hc3 (Dj.of L0 G1)
   replace hB := hB.inS hc3 (inLow G1)
   replace hZ := Nat.le_trans hZ hc3.size
   clear F3
   rewrite [show (l2).length = (l2.set (Int.toNat x1) ((y1.1, y1.2))).length from (List.length_set ..).symm]
   refine wS_end (by rfl) ?_
   refine eX_block ?_
   refine eX_then ?_
   refine cW_region ?_
   refine wS_pure 3 [(4, .int .i64 (wr (x1 + 1))), (13, .int .i64 (wr (x1 + 1))), (12, .int .i64 (x1))] (by kernel_rfl) ?_
   refine wS_end (by rfl) ?_
   have hq : (some (Ctl.next ((wr (x1 + 1), l2.set (Int.toNat x1) ((y1.1, y1.2))))) : Option (Ctl (Int × (List (Int × Int))) ((List (Int × Int))))) = some _ := hm
   replace hq := someE hq
   subst hq
   exact eX_next hx1 (fun hst => ⟨wr (x1 + 1), l2.set (Int.toNat x1) ((y1.1, y1.2)), rfl, Fr.of hst (by kernel_rfl), F2, F4, hB, hZ⟩)
  ·have hm := condF hb1 hm
   refine cW_exit ?_
   refine eX_then_exit ?_
   have hq : (some (Ctl.out l2) : Option (Ctl (Int × (List (Int × Int))) ((List (Int × Int))))) = some _ := hm
   replace hq := someE hq
   subst hq
   refine eX_outX hx1 (fun hr2 => ?_)
   replace hr2 := hr2.symm
   subst hr2
   refine eX_block_hit ?_
   exact eX_J (fun hst => ⟨l2, rfl, Fr.of hst (by kernel_rfl), F3, hB, hZ⟩)
 ·rintro a' w5 ⟨l1, hJ, hF2, F5, hB, hZ⟩
  subst hJ
  refine Fr.goX hF2 (by kernel_rfl) ?_
  refine eX_then ?_
  refine cW_seq ?_
  refine cW_region ?_
  refine wS_pure 2 [(2, .slice (some ⟨b1, 0, none⟩) (l1).length (Int.toNat (((l0).length : Int)))), (22, .slice (some ⟨b1, 0, none⟩) (l1).length (Int.toNat (((l0).length : Int))))] (by kernel_rfl) ?_
  refine wS_end (by rfl) ?_
  refine eX_then ?_
  refine cW_ret ?_
  have hq : (some l1 : Option ((List (Int × Int)))) = some _ := hm
  replace hq := someE hq
  subst hq
  refine eX_ret (vs := [.slice (some ⟨b1, 0, none⟩) (l1).length (Int.toNat (((l0).length : Int)))]) [.tmp 2] (by rfl) ⟨by (show lkE _ _ _ = _); kernel_rfl, trivial⟩ ?_
  exact ⟨(some ⟨b1, 0, none⟩), (Int.toNat (((l0).length : Int))), [b1], rfl, F5, G1, hB⟩

set_option maxRecDepth 100000 in
/-- impl.in -/
theorem c_impl_in {w0 : World} {p0 : Int} {p1 : Int} {p2 : Int} {r : (Bool)} (hm : m_impl_in p0 p1 p2 = some r)  :
  Calls Try.prog 50 #[.int .i64 (p0), .int .i64 (p1), .int .i64 (p2)] w0 fun e w' => e = .returned (.bool (r)) ∧ Chg [] w0 w' := by
 have hB : Chg [] w0 w0 := Chg.refl _ _
 have hZ := Nat.le_refl w0.heap.size
 unfold m_impl_in at hm
 refine enterE (N := 15) Try.func50 (by rfl) Try.ntmps50 (by simp) [(0, .int .i64 (p0)), (1, .int .i64 (p1)), (2, .int .i64 (p2))] (by rfl) (by kernel_rfl) (fun a => ?_)
 refine cW_seq ?_
 refine cW_region ?_
 refine wS_pure 1 [(6, .bool (false))] (by kernel_rfl) ?_
 refine wS_end (by rfl) ?_
 refine eX_then ?_
 refine cW_seq ?_
 refine cW_region ?_
 refine wS_pure 4 [(10, .bool (decide (p0 ≥ p1))), (9, .bool (decide (p0 ≥ p1))), (8, .int .i64 (p1)), (7, .int .i64 (p0))] (by kernel_rfl) ?_
 refine wS_bool (decide (p0 ≥ p1)) (fun hb1 => ?_) (fun hb1 => ?_)
 ·have hm := condT hb1 hm
  rewrite [hb1]
  refine wS_pure 5 [(6, .bool (decide (p0 ≤ p2))), (14, .bool (decide (p0 ≤ p2))), (13, .bool (decide (p0 ≤ p2))), (12, .int .i64 (p2)), (11, .int .i64 (p0))] (by kernel_rfl) ?_
  refine wS_end (by rfl) ?_
  refine eX_then ?_
  refine cW_ret ?_
  have hq : (some (decide (p0 ≤ p2)) : Option ((Bool))) = some _ := hm
  replace hq := someE hq
  subst hq
  refine eX_ret (vs := [.bool (decide (p0 ≤ p2))]) [.tmp 6] (by rfl) ⟨by (show lkE _ _ _ = _); kernel_rfl, trivial⟩ ?_
  exact ⟨rfl, hB⟩
 ·have hm := condF hb1 hm
  rewrite [hb1]
  refine wS_pure 5 [(6, .bool (false)), (14, .bool (false)), (13, undef), (12, undef), (11, undef)] (by kernel_rfl) ?_
  refine wS_end (by rfl) ?_
  refine eX_then ?_
  refine cW_ret ?_
  have hq : (some false : Option ((Bool))) = some _ := hm
  replace hq := someE hq
  subst hq
  refine eX_ret (vs := [.bool (false)]) [.tmp 6] (by rfl) ⟨by (show lkE _ _ _ = _); kernel_rfl, trivial⟩ ?_
  exact ⟨rfl, hB⟩

set_option maxRecDepth 100000 in
/-- impl.IsPoint -/
theorem c_impl_IsPoint {w0 : World} {p0_0 : Int} {p0_1 : Int} {r : (Bool)} (hm : m_impl_IsPoint p0_0 p0_1 = some r)  :
  Calls Try.prog 32 #[.agg #[.int .i64 (p0_0), .int .i64 (p0_1)]] w0 fun e w' => e = .returned (.bool (r)) ∧ Chg [] w0 w' := by
 have hB : Chg [] w0 w0 := Chg.refl _ _
 have hZ := Nat.le_refl w0.heap.size
 unfold m_impl_IsPoint at hm
 refine enterE (N := 11) Try.func32 (by rfl) Try.ntmps32 (by simp) [(0, .agg #[.int .i64 (p0_0), .int .i64 (p0_1)])] (by rfl) (by kernel_rfl) (fun a => ?_)
 refine cW_seq ?_
 refine cW_region ?_
 refine wS_box (d := 1) (T := 34) (x := .agg #[.int .i64 (p0_0), .int .i64 (p0_1)]) (by kernel_rfl) ?_
 intro b1 w1 G1 F1 hc1
 replace F1 : Cl w1 b1 34 [.int .i64 (p0_0), .int .i64 (p0_1)] := F1
 replace hB := hB.inS hc1 inNil
 replace G1 := Nat.le_trans hZ G1
 replace hZ := Nat.le_trans hZ hc1.size
 refine wS_pure 1 [(2, .bool (false))] (by kernel_rfl) ?_
 refine wS_end (by rfl) ?_
 refine eX_then ?_
 refine cW_seq ?_
 refine cW_region ?_
 refine wS_pure 1 [(3, .pointer (some ⟨b1, 0, none⟩))] (by kernel_rfl) ?_
 refine wS_load1 (d := 4) (T := 2) (ad := ⟨b1, 0, none⟩) (v := .int .i64 (p0_0)) (by kernel_rfl) vt2 ((F1).cell 0) ?_
 obtain ⟨y1, hy1, hm⟩ := bindE hm
 refine wS_calls (d := 5) (f := 50) (vs := [.int .i64 (p0_0), .int .i64 (0), .int .i64 (99)]) (by kernel_rfl) ent50 (c_impl_in hy1) ?_
 rintro _ w2 ⟨rfl, hc2⟩
 replace F1 := F1.chg hc2 notNil
 replace hB := hB.inS hc2 inNil
 replace hZ := Nat.le_trans hZ hc2.size
 refine ⟨.bool (y1), rfl, ?_⟩
 refine wS_pure 1 [(6, .bool (y1))] (by kernel_rfl) ?_
 refine wS_bool y1 (fun hb1 => ?_) (fun hb1 => ?_)
 ·have hm := condT hb1 hm
  rewrite [hb1]
  refine wS_pure 1 [(7, .pointer (some ⟨b1, 1, none⟩))] (by kernel_rfl) ?_
  refine wS_load1 (d := 8) (T := 2) (ad := ⟨b1, 1, none⟩) (v := .int .i64 (p0_1)) (by kernel_rfl) vt2 ((F1).cell 1) ?_
  obtain ⟨y2, hy2, hm⟩ := bindE hm
  refine wS_calls (d := 9) (f := 50) (vs := [.int .i64 (p0_1), .int .i64 (0), .int .i64 (99)]) (by kernel_rfl) ent50 (c_impl_in hy2) ?_
  rintro _ w3 ⟨rfl, hc3⟩
  replace F1 := F1.chg hc3 notNil
  replace hB := hB.inS hc3 inNil
  replace hZ := Nat.le_trans hZ hc3.size
  refine ⟨.bool (y2), rfl, ?_⟩
  refine wS_pure 2 [(2, .bool (y2)), (10, .bool (y2))] (by kernel_rfl) ?_
  refine wS_end (by rfl) ?_
  refine eX_then ?_
  refine cW_ret ?_
  have hq : (some y2 : Option ((Bool))) = some _ := hm
  replace hq := someE hq
  subst hq
  refine eX_ret (vs := [.bool (y2)]) [.tmp 2] (by rfl) ⟨by (show lkE _ _ _ = _); kernel_rfl, trivial⟩ ?_
  exact ⟨rfl, hB⟩
 ·have hm := condF hb1 hm
  rewrite [hb1]
  refine wS_pure 5 [(2, .bool (false)), (10, .bool (false)), (9, undef), (8, undef), (7, undef)] (by kernel_rfl) ?_
  refine wS_end (by rfl) ?_
  refine eX_then ?_
  refine cW_ret ?_
  have hq : (some false : Option ((Bool))) = some _ := hm
  replace hq := someE hq
  subst hq
  refine eX_ret (vs := [.bool (false)]) [.tmp 2] (by rfl) ⟨by (show lkE _ _ _ = _); kernel_rfl, trivial⟩ ?_
  exact ⟨rfl, hB⟩

set_option maxRecDepth 100000 in
/-- impl.noPoint -/
theorem c_impl_noPoint {w0 : World} {p0_0 : Int} {p0_1 : Int} {r : (Bool)} (hm : m_impl_noPoint p0_0 p0_1 = some r)  :
  Calls Try.prog 41 #[.agg #[.int .i64 (p0_0), .int .i64 (p0_1)]] w0 fun e w' => e = .returned (.bool (r)) ∧ Chg [] w0 w' := by
 have hB : Chg [] w0 w0 := Chg.refl _ _
 have hZ := Nat.le_refl w0.heap.size
 unfold m_impl_noPoint at hm
 refine enterE (N := 6) Try.func41 (by rfl) Try.ntmps41 (by simp) [(0, .agg #[.int .i64 (p0_0), .int .i64 (p0_1)])] (by rfl) (by kernel_rfl) (fun a => ?_)
 refine cW_seq ?_
 refine cW_region ?_
 refine wS_box (d := 1) (T := 34) (x := .agg #[.int .i64 (p0_0), .int .i64 (p0_1)]) (by kernel_rfl) ?_
 intro b1 w1 G1 F1 hc1
 replace F1 : Cl w1 b1 34 [.int .i64 (p0_0), .int .i64 (p0_1)] := F1
 replace hB := hB.inS hc1 inNil
 replace G1 := Nat.le_trans hZ G1
 replace hZ := Nat.le_trans hZ hc1.size
 refine wS_pure 1 [(2, .bool (false))] (by kernel_rfl) ?_
 refine wS_end (by rfl) ?_
 refine eX_then ?_
 refine cW_seq ?_
 refine cW_region ?_
 refine wS_loadA (d := 3) (T := 34) (ad := ⟨b1, 0, none⟩) (vs := [.int .i64 (p0_0), .int .i64 (p0_1)]) (by kernel_rfl) vt34 (fun i u hu => box_cells F1 0 hu (by rfl)) ?_
 obtain ⟨y1, hy1, hm⟩ := bindE hm
 refine wS_calls (d := 4) (f := 32) (vs := [.agg #[.int .i64 (p0_0), .int .i64 (p0_1)]]) (by kernel_rfl) ent32 (c_impl_IsPoint hy1) ?_
 rintro _ w2 ⟨rfl, hc2⟩
 replace F1 := F1.chg hc2 notNil
 replace hB := hB.inS hc2 inNil
 replace hZ := Nat.le_trans hZ hc2.size
 refine ⟨.bool (y1), rfl, ?_⟩
 refine wS_pure 2 [(2, .bool (!y1)), (5, .bool (!y1))] (by kernel_rfl) ?_
 refine wS_end (by rfl) ?_
 refine eX_then ?_
 refine cW_ret ?_
 have hq : (some (!y1) : Option ((Bool))) = some _ := hm
 replace hq := someE hq
 subst hq
 refine eX_ret (vs := [.bool (!y1)]) [.tmp 2] (by rfl) ⟨by (show lkE _ _ _ = _); kernel_rfl, trivial⟩ ?_
 exact ⟨rfl, hB⟩

set_option maxRecDepth 100000 in
/-- impl.Point] -/
theorem c_slices_Clone_impl_Point_impl_Point {w0 : World} {l0 : List (Int × Int)} {A0 : Option Addr} {cap0 : Nat} {fp0 : List Nat} {r : (List (Int × Int))} (hm : m_slices_Clone_impl_Point_impl_Point l0 = some r) (F0 : Sl 2 encII w0 fp0 A0 l0) :
  Calls Try.prog 58 #[.slice A0 (l0).length cap0] w0 fun e w' => ∃ A100 cap100 fp100, e = .returned (.slice A100 (r).length cap100) ∧ Ow 2 encII 34 w' fp100 A100 cap100 r ∧ (∀ x ∈ fp100, w0.heap.size ≤ x) ∧ Chg [] w0 w' := by
 have L0 := F0.low
 have hB : Chg [] w0 w0 := Chg.refl _ _
 have hZ := Nat.le_refl w0.heap.size
 unfold m_slices_Clone_impl_Point_impl_Point at hm
 refine enterE (N := 8) Try.func58 (by rfl) Try.ntmps58 (by simp) [(0, .slice A0 (l0).length cap0)] (by rfl) (by kernel_rfl) (fun a => ?_)
 refine cW_seq ?_
 refine cW_region ?_
 refine wS_pure 1 [(2, .slice none 0 0)] (by kernel_rfl) ?_
 refine wS_end (by rfl) ?_
 refine eX_then ?_
 refine cW_seq ?_
 refine cW_seq ?_
 refine cW_region ?_
 refine wS_pure 1 [(3, .slice A0 (l0).length cap0)] (by kernel_rfl) ?_
 rcases A0 with _ | ad1
 ·have hl1 := F0.none_nil
  subst hl1
  replace hm : (some ([])) = some _ := Eq.trans (by kernel_rfl) hm
  refine wS_pure 1 [(4, .bool (true))] (by kernel_rfl) ?_
  refine wS_end (by rfl) ?_
  refine eX_then ?_
  refine cW_cond_t (by kernel_rfl) ?_
  refine cW_seq ?_
  refine cW_region ?_
  refine wS_pure 1 [(2, .slice none 0 0)] (by kernel_rfl) ?_
  refine wS_end (by rfl) ?_
  refine eX_then ?_
  refine cW_ret ?_
  refine eX_then_ret ?_
  have hq : (some ([]) : Option ((List (Int × Int)))) = some _ := hm
  replace hq := someE hq
  subst hq
  refine eX_ret (vs := [.slice none 0 0]) [.tmp 2] (by rfl) ⟨by (show lkE _ _ _ = _); kernel_rfl, trivial⟩ ?_
  exact ⟨none, 0, [], rfl, Ow.nil _, lowNil, hB⟩
 ·skip
  refine wS_pure 1 [(4, .bool (false))] (by kernel_rfl) ?_
  refine wS_end (by rfl) ?_
  refine eX_then ?_
  refine cW_cond_f (by kernel_rfl) ?_
  refine cW_skip ?_
  refine eX_then ?_
  refine cW_seq ?_
  refine cW_region ?_
  refine wS_bs0 (α := Int × Int) (enc := encII) (d := 5) (t := 26) (T := 34) (by kernel_rfl) el26 ?_
  intro b1 w1 G1 F1 hc1
  replace F0 := F0.chg hc1 Dj.nil
  replace hB := hB.inS hc1 inNil
  replace G1 := Nat.le_trans hZ G1
  replace G1 := low1 G1
  replace hZ := Nat.le_trans hZ hc1.size
  refine wS_pure 1 [(6, .slice (some ad1) (l0).length cap0)] (by kernel_rfl) ?_
  obtain ⟨_, hk1, hm⟩ := bindE hm
  replace hk1 := apE hk1
  refine wS_appendAny (enc := encII) (l := (([] : List (Int × Int)) : List (Int × Int))) (l2 := (l0 : List (Int × Int))) (d := 7) (t := 26) (T := 34) (A := (some ⟨b1, 0, none⟩)) (A2 := (some ad1)) (cap := 0) (cap2 := cap0) (by kernel_rfl) el26 encII_ok F1 F0 hk1 ?_
  intro w2 fp1 A1 cap1 F2 hc2 hp1
  have G2 := low_ap G1 hZ hp1
  replace F0 := F0.chg hc2 (Dj.of L0 G1)
  replace hB := hB.inS hc2 (inLow G1)
  replace hZ := Nat.le_trans hZ hc2.size
  refine wS_pure 1 [(2, .slice A1 ((([] : List (Int × Int))) ++ l0).length cap1)] (by kernel_rfl) ?_
  refine wS_end (by rfl) ?_
  refine eX_then ?_
  refine cW_ret ?_
  have hq : (some ((([] : List (Int × Int))) ++ l0) : Option ((List (Int × Int)))) = some _ := hm
  replace hq := someE hq
  subst hq
  refine eX_ret (vs := [.slice A1 ((([] : List (Int × Int))) ++ l0).length cap1]) [.tmp 2] (by rfl) ⟨by (show lkE _ _ _ = _); kernel_rfl, trivial⟩ ?_
  exact ⟨A1, cap1, fp1, rfl, F2, G2, hB⟩

end Go.Proofs.Ytdmokbjaeikfdaa
