/- Printed walks: spec.l01Index, spec.l00In, spec.l01Point, spec.l05Is, spec.l05Few, spec.l00Max, spec.l01Abs, spec.l01Far, spec.l05Tree, spec.l03Less, spec.l05Pairs, spec.l05Pairs, impl.in, impl.IsPoint, impl.noPoint, slices.Clone[[]impl.Point,impl.Point], slices.Compact[[]impl.Point,impl.Point], impl.sorted, slices.IndexFunc[[]impl.Point,impl.Point], slices.ContainsFunc[[]impl.Point,impl.Point], impl.pinsOk, impl.size, impl.far, impl.spanning, slices.Grow[[]impl.Point,impl.Point], slices.Concat[[]impl.Point,impl.Point], impl.side. -/
import Derived.Test.YtdmokbjaeikfdaaProg
import Derived.Test.YtdmokbjaeikfdaaMod
import Derived.Test.YtdmokbjaeikfdaaEqs
import Derived.Test.YtdmokbjaeikfdaaSrtC
import Derived.Test.YtdmokbjaeikfdaaSrtR
import Derived.Test.YtdmokbjaeikfdaaIds
set_option linter.unusedSimpArgs false
set_option linter.unusedVariables false
namespace Go.Proofs.Ytdmokbjaeikfdaa
open Go.RowKit
attribute [local irreducible] wS cW eX wH

theorem ent32 : Ent Try.prog 32 := fun _ => by kernel_rfl
theorem ent34 : Ent Try.prog 34 := fun _ => by kernel_rfl
theorem ent37 : Ent Try.prog 37 := fun _ => by kernel_rfl
theorem ent38 : Ent Try.prog 38 := fun _ => by kernel_rfl
theorem ent40 : Ent Try.prog 40 := fun _ => by kernel_rfl
theorem ent41 : Ent Try.prog 41 := fun _ => by kernel_rfl
theorem ent42 : Ent Try.prog 42 := fun _ => by kernel_rfl
theorem ent43 : Ent Try.prog 43 := fun _ => by kernel_rfl
theorem ent44 : Ent Try.prog 44 := fun _ => by kernel_rfl
theorem ent49 : Ent Try.prog 49 := fun _ => by kernel_rfl
theorem ent50 : Ent Try.prog 50 := fun _ => by kernel_rfl
theorem ent51 : Ent Try.prog 51 := fun _ => by kernel_rfl
theorem ent55 : Ent Try.prog 55 := fun _ => by kernel_rfl
theorem ent57 : Ent Try.prog 57 := fun _ => by kernel_rfl
theorem ent58 : Ent Try.prog 58 := fun _ => by kernel_rfl
theorem ent59 : Ent Try.prog 59 := fun _ => by kernel_rfl
theorem ent60 : Ent Try.prog 60 := fun _ => by kernel_rfl
theorem ent61 : Ent Try.prog 61 := fun _ => by kernel_rfl
theorem ent69 : Ent Try.prog 69 := fun _ => by kernel_rfl
theorem ent71 : Ent Try.prog 71 := fun _ => by kernel_rfl
theorem ent84 : Ent Try.prog 84 := fun _ => by kernel_rfl
theorem vt4 : VarTy Try.prog 4 1 false := ⟨by kernel_rfl, by kernel_rfl⟩
theorem vt26 : VarTy Try.prog 26 1 false := ⟨by kernel_rfl, by kernel_rfl⟩
theorem vt34 : VarTy Try.prog 34 2 true := ⟨by kernel_rfl, by kernel_rfl⟩
theorem vt66 : VarTy Try.prog 66 1 false := ⟨by kernel_rfl, by kernel_rfl⟩
theorem sl26 : SlTy Try.prog 26 34 2 := ⟨Try.underlying26, by kernel_rfl⟩
theorem sl40 : SlTy Try.prog 40 66 1 := ⟨Try.underlying40, by kernel_rfl⟩
theorem sl65 : SlTy Try.prog 65 4 1 := ⟨Try.underlying65, by kernel_rfl⟩
theorem sl104 : SlTy Try.prog 104 26 1 := ⟨Try.underlying104, by kernel_rfl⟩
theorem el26 : ElTy Try.prog 26 34 2 (.agg #[.int .i64 (0), .int .i64 (0)]) := ElTy.mk' Try.underlying26 (by kernel_rfl) (by rfl)
theorem el40 : ElTy Try.prog 40 66 1 (.slice none 0 0) := ElTy.mk' Try.underlying40 (by kernel_rfl) (by rfl)
theorem el65 : ElTy Try.prog 65 4 1 (.bool (false)) := ElTy.mk' Try.underlying65 (by kernel_rfl) (by rfl)
theorem el66 : ElTy Try.prog 66 2 1 (.int .i64 (0)) := ElTy.mk' Try.underlying66 (by kernel_rfl) (by rfl)
theorem eq34 : ∃ f0 f1, EqTy Try.prog 34 f0 f1 := ⟨_, _, Try.underlying34, by kernel_rfl, by kernel_rfl, by kernel_rfl, fun w => pureRun_run (by kernel_rfl) w, fun w => pureRun_run (by kernel_rfl) w, rfl, rfl, Try.underlying2, Try.underlying2, by kernel_rfl⟩
theorem ity3 : Try.prog.underlying 3 = some (.int .i64) := Try.underlying3
theorem sz4 : pureRun Try.prog (sizeOf 4) = some 1 := by kernel_rfl
theorem sz34 : pureRun Try.prog (sizeOf 34) = some 2 := by kernel_rfl

set_option maxRecDepth 100000 in
/-- spec.l01Index -/
theorem c_spec_l01Index {w0 : World} {l0 : List (Int × Int)} {A0 : Option Addr} {cap0 : Nat} {fp0 : List Nat} {p1_0 : Int} {p1_1 : Int} {r : (Int)} (hm : m_spec_l01Index l0 p1_0 p1_1 = some r) (F0 : Sl 2 encII w0 fp0 A0 l0) :
  Calls Try.prog 49 #[.slice A0 (l0).length cap0, .agg #[.int .i64 (p1_0), .int .i64 (p1_1)]] w0 fun e w' => e = .returned (.int .i64 (r)) ∧ Chg [] w0 w' := by
 have L0 := F0.low
 have hB : Chg [] w0 w0 := Chg.refl _ _
 have hZ := Nat.le_refl w0.heap.size
 unfold m_spec_l01Index at hm
 refine enterE (N := 19) Try.func49 (by rfl) Try.ntmps49 (by simp) [(0, .slice A0 (l0).length cap0), (1, .agg #[.int .i64 (p1_0), .int .i64 (p1_1)])] (by rfl) (by kernel_rfl) (fun a => ?_)
 refine cW_seq ?_
 refine cW_region ?_
 refine wS_box (d := 3) (T := 34) (x := .agg #[.int .i64 (p1_0), .int .i64 (p1_1)]) (by kernel_rfl) ?_
 intro b1 w1 G1 F1 hc1
 replace F1 : Cl w1 b1 34 [.int .i64 (p1_0), .int .i64 (p1_1)] := F1
 replace F0 := F0.chg hc1 Dj.nil
 replace hB := hB.inS hc1 inNil
 replace G1 := Nat.le_trans hZ G1
 replace hZ := Nat.le_trans hZ hc1.size
 refine wS_pure 1 [(4, .int .i64 (0))] (by kernel_rfl) ?_
 refine wS_end (by rfl) ?_
 refine eX_then ?_
 refine cW_seq ?_
 refine cW_seq ?_
 refine cW_region ?_
 refine wS_pure 1 [(5, .int .i64 (0))] (by kernel_rfl) ?_
 refine wS_end (by rfl) ?_
 refine eX_then ?_
 obtain ⟨r1, hr1, hm⟩ := bindE hm
 have hm1 := hm
 refine cW_cut (fun a' w' => Sum.inl (()) = r1 ∧ Fr 19 [] a' ∧ Chg [] w0 w' ∧ w0.heap.size ≤ w'.heap.size) ?_ ?_
 ·refine cW_block ?_
  refine cW_loop _ (fun (s1 : Int) a' w' => ∃ x1 : Int, x1 = s1 ∧ Fr 19 [(0, .slice A0 (l0).length cap0), (3, .pointer (some ⟨b1, 0, none⟩)), (5, .int .i64 (x1))] a' ∧ Sl 2 encII w' fp0 A0 l0 ∧ Cl w' b1 34 [.int .i64 (p1_0), .int .i64 (p1_1)] ∧ Chg [] w0 w' ∧ w0.heap.size ≤ w'.heap.size) hr1 (fun hst => ⟨0, rfl, Fr.of hst (by kernel_rfl), F0, F1, hB, hZ⟩) ?_
  rintro _ c1 a' w2 ⟨x1, rfl, hF1, F2, F3, hB, hZ⟩ hx1
  refine Fr.goOn hF1 (by kernel_rfl) ?_
  have hm := hx1
  unfold m_spec_l01Index_s1 at hm
  refine cW_seq ?_
  refine cW_seq ?_
  refine cW_region ?_
  refine wS_pure 4 [(9, .bool (decide (x1 < (((l0).length : Int))))), (8, .int .i64 (((l0).length : Int))), (7, .slice A0 (l0).length cap0), (6, .int .i64 (x1))] (by kernel_rfl) ?_
  refine wS_end (by rfl) ?_
  refine eX_then ?_
  refine cW_cond (t := decide (x1 < (((l0).length : Int)))) (by kernel_rfl) (fun hb1 => ?_) (fun hb1 => ?_)
  ·have hm := condT hb1 hm
   refine cW_skip ?_
   refine eX_then ?_
   refine cW_seq ?_
   refine cW_block ?_
   refine cW_seq ?_
   refine cW_drawnTail [] 5 (by kernel_rfl) (by kernel_rfl) (fun w3 hc2 => ?_)
   replace F2 := F2.chg hc2 Dj.nil
   replace F3 := F3.chg hc2 notNil
   replace hB := hB.inS hc2 inNil
   replace hZ := Nat.le_trans hZ hc2.size
   have hS := Chg.refl [] w3
   have Z1 := F2
   have Z2 := F3
   refine wH_take [0, 1] [1, 0] [(13, .int .i64 (x1)), (12, .slice A0 (l0).length cap0)] (by kernel_rfl) (qT (qT (qB (qT (qL (qB (qT (qT qZ)))))))) (by kernel_rfl) ?_
   obtain ⟨x2, hx2, hm⟩ := bindE hm
   refine wH_idx (i := 2) (d := 14) (T := 26) (A := A0) (n := (l0).length) (cap := cap0) (kd := .i64) (m := x1) (by kernel_rfl) (qT (qT (qB (qT (qL (qB (qT (qT qZ)))))))) (by kernel_rfl) (by kernel_rfl) sl26 (F2.is hx2) ?_
   refine wH_loadA (i := 3) (d := 15) (T := 34) (ad := (elA A0 2 (x1) 0)) (vs := [.int .i64 (x2.1), .int .i64 (x2.2)]) (by kernel_rfl) (qT (qT (qB (qT (qL (qB (qT (qT qZ)))))))) (by kernel_rfl) (by kernel_rfl) vt34 (fun W hW i u hu => Sl.cells_at (Z1.chg hW Dj.nil) hx2 0 hu (by rfl)) ?_
   refine wH_loadA (i := 4) (d := 16) (T := 34) (ad := ⟨b1, 0, none⟩) (vs := [.int .i64 (p1_0), .int .i64 (p1_1)]) (by kernel_rfl) (qT (qT (qB (qT (qL (qB (qT (qT qZ)))))))) (by kernel_rfl) (by kernel_rfl) vt34 (fun W hW i u hu => box_cells (Z2.chg hW notNil) 0 hu (by rfl)) ?_
   refine wH_done (by kernel_rfl) ?_
   refine eX_tail ?_
   refine wS_eqS (d := 17) (T := 34) (x := x2.1) (y := x2.2) (x' := p1_0) (y' := p1_1) (by kernel_rfl) eq34 ?_
   refine wS_end (by rfl) ?_
   refine eX_then ?_
   refine cW_cond (t := x2.1 == p1_0 && x2.2 == p1_1) (by kernel_rfl) (fun hb2 => ?_) (fun hb2 => ?_)
   ·have hm := condT hb2 hm
    refine cW_seq ?_
    refine cW_region ?_
    refine wS_pure 2 [(4, .int .i64 (x1)), (18, .int .i64 (x1))] (by kernel_rfl) ?_
    refine wS_end (by rfl) ?_
    refine eX_then ?_
    refine cW_ret ?_
    refine eX_block_ret ?_
    refine eX_then_ret ?_
    have hq : (some (Ctl.out (Sum.inr x1)) : Option (Ctl (Int) (Sum (Unit) ((Int))))) = some _ := hm
    replace hq := someE hq
    subst hq
    refine eX_outR hx1 (fun hr => ?_)
    subst hr
    refine eX_block_ret ?_
    refine eX_then_ret ?_
    refine eX_then_ret ?_
    have hq : (some x1 : Option ((Int))) = some _ := hm1
    replace hq := someE hq
    subst hq
    refine eX_ret (vs := [.int .i64 (x1)]) [.tmp 4] (by rfl) ⟨by (show lkE _ _ _ = _); kernel_rfl, trivial⟩ ?_
    exact ⟨rfl, hB⟩
   ·have hm := condF hb2 hm
    refine cW_skip ?_
    refine eX_block ?_
    refine eX_then ?_
    refine cW_region ?_
    refine wS_pure 3 [(5, .int .i64 (wr (x1 + 1))), (11, .int .i64 (wr (x1 + 1))), (10, .int .i64 (x1))] (by kernel_rfl) ?_
    refine wS_end (by rfl) ?_
    have hq : (some (Ctl.next (wr (x1 + 1))) : Option (Ctl (Int) (Sum (Unit) ((Int))))) = some _ := hm
    replace hq := someE hq
    subst hq
    exact eX_next hx1 (fun hst => ⟨wr (x1 + 1), rfl, Fr.of hst (by kernel_rfl), F2, F3, hB, hZ⟩)
  ·have hm := condF hb1 hm
   refine cW_exit ?_
   refine eX_then_exit ?_
   have hq : (some (Ctl.out (Sum.inl (()))) : Option (Ctl (Int) (Sum (Unit) ((Int))))) = some _ := hm
   replace hq := someE hq
   subst hq
   refine eX_outX hx1 (fun hr2 => ?_)
   replace hr2 := hr2.symm
   subst hr2
   refine eX_block_hit ?_
   exact eX_J (fun hst => ⟨rfl, Fr.of hst (by kernel_rfl), hB, hZ⟩)
 ·rintro a' w4 ⟨hJ, hF2, hB, hZ⟩
  subst hJ
  refine Fr.goX hF2 (by kernel_rfl) ?_
  refine eX_then ?_
  refine cW_seq ?_
  refine cW_region ?_
  refine wS_pure 1 [(4, .int .i64 ((-1)))] (by kernel_rfl) ?_
  refine wS_end (by rfl) ?_
  refine eX_then ?_
  refine cW_ret ?_
  have hq : (some ((-1)) : Option ((Int))) = some _ := hm
  replace hq := someE hq
  subst hq
  refine eX_ret (vs := [.int .i64 ((-1))]) [.tmp 4] (by rfl) ⟨by (show lkE _ _ _ = _); kernel_rfl, trivial⟩ ?_
  exact ⟨rfl, hB⟩

set_option maxRecDepth 100000 in
/-- spec.l00In -/
theorem c_spec_l00In {w0 : World} {p0 : Int} {p1 : Int} {p2 : Int} {r : (Bool)} (hm : m_spec_l00In p0 p1 p2 = some r)  :
  Calls Try.prog 69 #[.int .i64 (p0), .int .i64 (p1), .int .i64 (p2)] w0 fun e w' => e = .returned (.bool (r)) ∧ Chg [] w0 w' := by
 have hB : Chg [] w0 w0 := Chg.refl _ _
 have hZ := Nat.le_refl w0.heap.size
 unfold m_spec_l00In at hm
 refine enterE (N := 15) Try.func69 (by rfl) Try.ntmps69 (by simp) [(0, .int .i64 (p0)), (1, .int .i64 (p1)), (2, .int .i64 (p2))] (by rfl) (by kernel_rfl) (fun a => ?_)
 refine cW_seq ?_
 refine cW_region ?_
 refine wS_pure 1 [(6, .bool (false))] (by kernel_rfl) ?_
 refine wS_end (by rfl) ?_
 refine eX_then ?_
 refine cW_seq ?_
 refine cW_region ?_
 refine wS_pure 4 [(10, .bool (decide (p0 ≥ p1))), (9, .bool (decide (p0 ≥ p1))), (8, .int .i64 (p1)), (7, .int .i64 (p0))] (by kernel_rfl) ?_
 refine wS_bool (decide (p0 ≥ p1)) (fun hb1 => ?_) (fun hb1 => ?_)
 ·have hm := condT hb1 hm
  rewrite [hb1]
  refine wS_pure 5 [(6, .bool (decide (p0 ≤ p2))), (14, .bool (decide (p0 ≤ p2))), (13, .bool (decide (p0 ≤ p2))), (12, .int .i64 (p2)), (11, .int .i64 (p0))] (by kernel_rfl) ?_
  refine wS_end (by rfl) ?_
  refine eX_then ?_
  refine cW_ret ?_
  have hq : (some (decide (p0 ≤ p2)) : Option ((Bool))) = some _ := hm
  replace hq := someE hq
  subst hq
  refine eX_ret (vs := [.bool (decide (p0 ≤ p2))]) [.tmp 6] (by rfl) ⟨by (show lkE _ _ _ = _); kernel_rfl, trivial⟩ ?_
  exact ⟨rfl, hB⟩
 ·have hm := condF hb1 hm
  rewrite [hb1]
  refine wS_pure 5 [(6, .bool (false)), (14, .bool (false)), (13, undef), (12, undef), (11, undef)] (by kernel_rfl) ?_
  refine wS_end (by rfl) ?_
  refine eX_then ?_
  refine cW_ret ?_
  have hq : (some false : Option ((Bool))) = some _ := hm
  replace hq := someE hq
  subst hq
  refine eX_ret (vs := [.bool (false)]) [.tmp 6] (by rfl) ⟨by (show lkE _ _ _ = _); kernel_rfl, trivial⟩ ?_
  exact ⟨rfl, hB⟩

set_option maxRecDepth 100000 in
/-- spec.l01Point -/
theorem c_spec_l01Point {w0 : World} {p0_0 : Int} {p0_1 : Int} {r : (Bool)} (hm : m_spec_l01Point p0_0 p0_1 = some r)  :
  Calls Try.prog 51 #[.agg #[.int .i64 (p0_0), .int .i64 (p0_1)]] w0 fun e w' => e = .returned (.bool (r)) ∧ Chg [] w0 w' := by
 have hB : Chg [] w0 w0 := Chg.refl _ _
 have hZ := Nat.le_refl w0.heap.size
 unfold m_spec_l01Point at hm
 refine enterE (N := 11) Try.func51 (by rfl) Try.ntmps51 (by simp) [(0, .agg #[.int .i64 (p0_0), .int .i64 (p0_1)])] (by rfl) (by kernel_rfl) (fun a => ?_)
 refine cW_seq ?_
 refine cW_region ?_
 refine wS_box (d := 1) (T := 34) (x := .agg #[.int .i64 (p0_0), .int .i64 (p0_1)]) (by kernel_rfl) ?_
 intro b1 w1 G1 F1 hc1
 replace F1 : Cl w1 b1 34 [.int .i64 (p0_0), .int .i64 (p0_1)] := F1
 replace hB := hB.inS hc1 inNil
 replace G1 := Nat.le_trans hZ G1
 replace hZ := Nat.le_trans hZ hc1.size
 refine wS_pure 1 [(2, .bool (false))] (by kernel_rfl) ?_
 refine wS_end (by rfl) ?_
 refine eX_then ?_
 refine cW_seq ?_
 refine cW_region ?_
 refine wS_pure 1 [(3, .pointer (some ⟨b1, 0, none⟩))] (by kernel_rfl) ?_
 refine wS_load1 (d := 4) (T := 2) (ad := ⟨b1, 0, none⟩) (v := .int .i64 (p0_0)) (by kernel_rfl) vt2 ((F1).cell 0) ?_
 obtain ⟨y1, hy1, hm⟩ := bindE hm
 refine wS_calls (d := 5) (f := 69) (vs := [.int .i64 (p0_0), .int .i64 (0), .int .i64 (99)]) (by kernel_rfl) ent69 (c_spec_l00In hy1) ?_
 rintro _ w2 ⟨rfl, hc2⟩
 replace F1 := F1.chg hc2 notNil
 replace hB := hB.inS hc2 inNil
 replace hZ := Nat.le_trans hZ hc2.size
 refine ⟨.bool (y1), rfl, ?_⟩
 refine wS_pure 1 [(6, .bool (y1))] (by kernel_rfl) ?_
 refine wS_bool y1 (fun hb1 => ?_) (fun hb1 => ?_)
 ·have hm := condT hb1 hm
  rewrite [hb1]
  refine wS_pure 1 [(7, .pointer (some ⟨b1, 1, none⟩))] (by kernel_rfl) ?_
  refine wS_load1 (d := 8) (T := 2) (ad := ⟨b1, 1, none⟩) (v := .int .i64 (p0_1)) (by kernel_rfl) vt2 ((F1).cell 1) ?_
  obtain ⟨y2, hy2, hm⟩ := bindE hm
  refine wS_calls (d := 9) (f := 69) (vs := [.int .i64 (p0_1), .int .i64 (0), .int .i64 (99)]) (by kernel_rfl) ent69 (c_spec_l00In hy2) ?_
  rintro _ w3 ⟨rfl, hc3⟩
  replace F1 := F1.chg hc3 notNil
  replace hB := hB.inS hc3 inNil
  replace hZ := Nat.le_trans hZ hc3.size
  refine ⟨.bool (y2), rfl, ?_⟩
  refine wS_pure 2 [(2, .bool (y2)), (10, .bool (y2))] (by kernel_rfl) ?_
  refine wS_end (by rfl) ?_
  refine eX_then ?_
  refine cW_ret ?_
  have hq : (some y2 : Option ((Bool))) = some _ := hm
  replace hq := someE hq
  subst hq
  refine eX_ret (vs := [.bool (y2)]) [.tmp 2] (by rfl) ⟨by (show lkE _ _ _ = _); kernel_rfl, trivial⟩ ?_
  exact ⟨rfl, hB⟩
 ·have hm := condF hb1 hm
  rewrite [hb1]
  refine wS_pure 5 [(2, .bool (false)), (10, .bool (false)), (9, undef), (8, undef), (7, undef)] (by kernel_rfl) ?_
  refine wS_end (by rfl) ?_
  refine eX_then ?_
  refine cW_ret ?_
  have hq : (some false : Option ((Bool))) = some _ := hm
  replace hq := someE hq
  subst hq
  refine eX_ret (vs := [.bool (false)]) [.tmp 2] (by rfl) ⟨by (show lkE _ _ _ = _); kernel_rfl, trivial⟩ ?_
  exact ⟨rfl, hB⟩

set_option maxRecDepth 100000 in
/-- spec.l05Is -/
theorem c_spec_l05Is {w0 : World} {l0 : List (Int × Int)} {A0 : Option Addr} {cap0 : Nat} {fp0 : List Nat} {r : (Bool)} (hm : m_spec_l05Is l0 = some r) (F0 : Sl 2 encII w0 fp0 A0 l0) (K0 : (l0).length ≤ cap0) :
  Calls Try.prog 34 #[.slice A0 (l0).length cap0] w0 fun e w' => e = .returned (.bool (r)) ∧ Chg [] w0 w' := by
 have L0 := F0.low
 have hB : Chg [] w0 w0 := Chg.refl _ _
 have hZ := Nat.le_refl w0.heap.size
 unfold m_spec_l05Is at hm
 refine enterE (N := 35) Try.func34 (by rfl) Try.ntmps34 (by simp) [(0, .slice A0 (l0).length cap0)] (by rfl) (by kernel_rfl) (fun a => ?_)
 refine cW_seq ?_
 refine cW_region ?_
 refine wS_pure 1 [(2, .bool (false))] (by kernel_rfl) ?_
 refine wS_end (by rfl) ?_
 refine eX_then ?_
 refine cW_seq ?_
 refine cW_seq ?_
 refine cW_region ?_
 refine wS_pure 4 [(7, .bool (decide ((((l0).length : Int)) < 1))), (6, .bool (decide ((((l0).length : Int)) < 1))), (5, .int .i64 (((l0).length : Int))), (4, .slice A0 (l0).length cap0)] (by kernel_rfl) ?_
 refine wS_bool (decide ((((l0).length : Int)) < 1)) (fun hb1 => ?_) (fun hb1 => ?_)
 ·have hm := condT hb1 hm
  rewrite [hb1]
  refine wS_pure 4 [(11, .bool (true)), (10, undef), (9, undef), (8, undef)] (by kernel_rfl) ?_
  refine wS_end (by rfl) ?_
  refine eX_then ?_
  refine cW_cond_t (by kernel_rfl) ?_
  refine cW_seq ?_
  refine cW_region ?_
  refine wS_pure 1 [(2, .bool (false))] (by kernel_rfl) ?_
  refine wS_end (by rfl) ?_
  refine eX_then ?_
  refine cW_ret ?_
  refine eX_then_ret ?_
  have hq : (some false : Option ((Bool))) = some _ := hm
  replace hq := someE hq
  subst hq
  refine eX_ret (vs := [.bool (false)]) [.tmp 2] (by rfl) ⟨by (show lkE _ _ _ = _); kernel_rfl, trivial⟩ ?_
  exact ⟨rfl, hB⟩
 ·have hm := condF hb1 hm
  rewrite [hb1]
  refine wS_pure 4 [(11, .bool (decide ((((l0).length : Int)) > 20))), (10, .bool (decide ((((l0).length : Int)) > 20))), (9, .int .i64 (((l0).length : Int))), (8, .slice A0 (l0).length cap0)] (by kernel_rfl) ?_
  refine wS_end (by rfl) ?_
  refine eX_then ?_
  refine cW_cond (t := decide ((((l0).length : Int)) > 20)) (by kernel_rfl) (fun hb2 => ?_) (fun hb2 => ?_)
  ·have hm := condT hb2 hm
   refine cW_seq ?_
   refine cW_region ?_
   refine wS_pure 1 [(2, .bool (false))] (by kernel_rfl) ?_
   refine wS_end (by rfl) ?_
   refine eX_then ?_
   refine cW_ret ?_
   refine eX_then_ret ?_
   have hq : (some false : Option ((Bool))) = some _ := hm
   replace hq := someE hq
   subst hq
   refine eX_ret (vs := [.bool (false)]) [.tmp 2] (by rfl) ⟨by (show lkE _ _ _ = _); kernel_rfl, trivial⟩ ?_
   exact ⟨rfl, hB⟩
  ·have hm := condF hb2 hm
   refine cW_skip ?_
   refine eX_then ?_
   refine cW_seq ?_
   refine cW_seq ?_
   refine cW_region ?_
   refine wS_pure 1 [(3, .int .i64 (0))] (by kernel_rfl) ?_
   refine wS_end (by rfl) ?_
   refine eX_then ?_
   obtain ⟨r1, hr1, hm⟩ := bindE hm
   have hm1 := hm
   refine cW_cut (fun a' w' => Sum.inl (()) = r1 ∧ Fr 35 [] a' ∧ Chg [] w0 w' ∧ w0.heap.size ≤ w'.heap.size) ?_ ?_
   ·refine cW_block ?_
    refine cW_loop _ (fun (s1 : Int) a' w' => ∃ x1 : Int, x1 = s1 ∧ Fr 35 [(0, .slice A0 (l0).length cap0), (3, .int .i64 (x1))] a' ∧ Sl 2 encII w' fp0 A0 l0 ∧ Chg [] w0 w' ∧ w0.heap.size ≤ w'.heap.size) hr1 (fun hst => ⟨0, rfl, Fr.of hst (by kernel_rfl), F0, hB, hZ⟩) ?_
    rintro _ c1 a' w1 ⟨x1, rfl, hF1, F1, hB, hZ⟩ hx1
    refine Fr.goOn hF1 (by kernel_rfl) ?_
    have hm := hx1
    unfold m_spec_l05Is_s1 at hm
    refine cW_seq ?_
    refine cW_seq ?_
    refine cW_region ?_
    refine wS_pure 4 [(15, .bool (decide (x1 < (((l0).length : Int))))), (14, .int .i64 (((l0).length : Int))), (13, .slice A0 (l0).length cap0), (12, .int .i64 (x1))] (by kernel_rfl) ?_
    refine wS_end (by rfl) ?_
    refine eX_then ?_
    refine cW_cond (t := decide (x1 < (((l0).length : Int)))) (by kernel_rfl) (fun hb3 => ?_) (fun hb3 => ?_)
    ·have hm := condT hb3 hm
     refine cW_skip ?_
     refine eX_then ?_
     refine cW_seq ?_
     refine cW_block ?_
     refine cW_seq ?_
     refine cW_drawnTail [] 14 (by kernel_rfl) (by kernel_rfl) (fun w2 hc1 => ?_)
     replace F1 := F1.chg hc1 Dj.nil
     replace hB := hB.inS hc1 inNil
     replace hZ := Nat.le_trans hZ hc1.size
     have hS := Chg.refl [] w2
     have Z1 := F1
     refine wH_take [0, 1] [1, 0] [(19, .int .i64 (x1)), (18, .slice A0 (l0).length cap0)] (by kernel_rfl) (qT (qT (qB (qT (qL (qB (qT (qT qZ)))))))) (by kernel_rfl) ?_
     obtain ⟨x2, hx2, hm⟩ := bindE hm
     refine wH_idx (i := 2) (d := 20) (T := 26) (A := A0) (n := (l0).length) (cap := cap0) (kd := .i64) (m := x1) (by kernel_rfl) (qT (qT (qB (qT (qL (qB (qT (qT qZ)))))))) (by kernel_rfl) (by kernel_rfl) sl26 (F1.is hx2) ?_
     refine wH_loadA (i := 3) (d := 21) (T := 34) (ad := (elA A0 2 (x1) 0)) (vs := [.int .i64 (x2.1), .int .i64 (x2.2)]) (by kernel_rfl) (qT (qT (qB (qT (qL (qB (qT (qT qZ)))))))) (by kernel_rfl) (by kernel_rfl) vt34 (fun W hW i u hu => Sl.cells_at (Z1.chg hW Dj.nil) hx2 0 hu (by rfl)) ?_
     refine wH_all [4] (by rfl) (by kernel_rfl) (by simp) ⟨⟨by kernel_rfl, ?_⟩, trivial⟩
     obtain ⟨y1, hy1, hm⟩ := bindE hm
     refine wS_calls (d := 22) (f := 51) (vs := [.agg #[.int .i64 (x2.1), .int .i64 (x2.2)]]) (by kernel_rfl) ent51 (c_spec_l01Point hy1) ?_
     rintro _ w3 ⟨rfl, hc2⟩
     replace F1 := F1.chg hc2 Dj.nil
     replace hB := hB.inS hc2 inNil
     have hSz := hS
     replace hS := hS.inS hc2 inNil
     replace hZ := Nat.le_trans hZ hc2.size
     refine ⟨.bool (y1), rfl, ?_⟩
     refine wS_end (by kernel_rfl) ?_
     refine eX_KH hS ?_
     refine wH_take [5, 6] [6, 5, 4, 3, 2, 1, 0] [(24, .bool (!y1)), (23, .bool (!y1))] (by kernel_rfl) (qT (qT (qB (qT (qL (qB (qT (qT qZ)))))))) (by kernel_rfl) ?_
     refine wH_bool (!y1) (fun hb4 => ?_) (fun hb4 => ?_)
     ·have hm := condT hb4 hm
      rewrite [hb4]
      refine wH_take [7, 8, 9, 10, 11, 12, 13] [13, 12, 11, 10, 9, 8, 7, 6, 5, 4, 3, 2, 1, 0] [(31, undef), (30, undef), (29, undef), (28, undef), (27, undef), (26, undef), (25, undef)] (by kernel_rfl) (qT (qT (qB (qT (qL (qB (qT (qT qZ)))))))) (by kernel_rfl) ?_
      refine wH_done (by kernel_rfl) ?_
      refine eX_tail ?_
      refine wS_pure 3 [(34, .bool (true)), (33, undef), (32, undef)] (by kernel_rfl) ?_
      refine wS_end (by rfl) ?_
      refine eX_then ?_
      refine cW_cond_t (by kernel_rfl) ?_
      refine cW_seq ?_
      refine cW_region ?_
      refine wS_pure 1 [(2, .bool (false))] (by kernel_rfl) ?_
      refine wS_end (by rfl) ?_
      refine eX_then ?_
      refine cW_prune [(2, .bool (false))] (by kernel_rfl) (by kernel_rfl) (fun a1 => ?_)
      refine cW_ret ?_
      refine eX_block_ret ?_
      refine eX_then_ret ?_
      have hq : (some (Ctl.out (Sum.inr false)) : Option (Ctl (Int) (Sum (Unit) ((Bool))))) = some _ := hm
      replace hq := someE hq
      subst hq
      refine eX_outR hx1 (fun hr => ?_)
      subst hr
      refine eX_block_ret ?_
      refine eX_then_ret ?_
      refine eX_then_ret ?_
      have hq : (some false : Option ((Bool))) = some _ := hm1
      replace hq := someE hq
      subst hq
      refine eX_ret (vs := [.bool (false)]) [.tmp 2] (by rfl) ⟨by (show lkE _ _ _ = _); kernel_rfl, trivial⟩ ?_
      exact ⟨rfl, hB⟩
     ·have hm := condF hb4 hm
      rewrite [hb4]
      refine wH_take [7, 8] [8, 7, 6, 5, 4, 3, 2, 1, 0] [(26, .int .i64 (x1)), (25, .slice A0 (l0).length cap0)] (by kernel_rfl) (qT (qT (qB (qT (qL (qB (qT (qT qZ)))))))) (by kernel_rfl) ?_
      obtain ⟨y2, hy2, hm⟩ := bindE hm
      refine wH_slice (k := 2) (enc := encII) (fp := fp0) (l := l0) (i := 9) (d := 27) (T := 26) (A := A0) (cap := cap0) (vlo := none) (vhi := some (.int .i64 (x1))) (lo := 0) (hi := x1) (n := 0) (by kernel_rfl) (qT (qT (qB (qT (qL (qB (qT (qT qZ)))))))) (by kernel_rfl) (by kernel_rfl) sl26 (Or.inr ⟨rfl, rfl⟩) (Or.inl rfl) K0 hy2 ?_
      intro A1 cap1 hcut1 hcap1
      have F2 := hcut1 _ F1
      have Fz1 := hcut1 _ Z1
      refine wH_take [10, 11] [11, 10, 9, 8, 7, 6, 5, 4, 3, 2, 1, 0] [(29, .int .i64 (x1)), (28, .slice A0 (l0).length cap0)] (by kernel_rfl) (qT (qT (qB (qT (qL (qB (qT (qT qZ)))))))) (by kernel_rfl) ?_
      obtain ⟨x3, hx3, hm⟩ := bindE hm
      refine wH_idx (i := 12) (d := 30) (T := 26) (A := A0) (n := (l0).length) (cap := cap0) (kd := .i64) (m := x1) (by kernel_rfl) (qT (qT (qB (qT (qL (qB (qT (qT qZ)))))))) (by kernel_rfl) (by kernel_rfl) sl26 (F1.is hx3) ?_
      refine wH_loadA (i := 13) (d := 31) (T := 34) (ad := (elA A0 2 (x1) 0)) (vs := [.int .i64 (x3.1), .int .i64 (x3.2)]) (by kernel_rfl) (qT (qT (qB (qT (qL (qB (qT (qT qZ)))))))) (by kernel_rfl) (by kernel_rfl) vt34 (fun W hW i u hu => Sl.cells_at (Z1.chg hW Dj.nil) hx3 0 hu (by rfl)) ?_
      refine wH_done (by kernel_rfl) ?_
      refine eX_tail ?_
      obtain ⟨y3, hy3, hm⟩ := bindE hm
      refine wS_calls (d := 32) (f := 49) (vs := [.slice A1 (y2).length cap1, .agg #[.int .i64 (x3.1), .int .i64 (x3.2)]]) (by kernel_rfl) ent49 (c_spec_l01Index hy3 F2) ?_
      rintro _ w4 ⟨rfl, hc3⟩
      replace F1 := F1.chg hc3 Dj.nil
      replace F2 := F2.chg hc3 Dj.nil
      replace hB := hB.inS hc3 inNil
      replace hZ := Nat.le_trans hZ hc3.size
      refine ⟨.int .i64 (y3), rfl, ?_⟩
      refine wS_pure 2 [(34, .bool (decide (y3 ≥ 0))), (33, .bool (decide (y3 ≥ 0)))] (by kernel_rfl) ?_
      refine wS_end (by rfl) ?_
      refine eX_then ?_
      refine cW_cond (t := decide (y3 ≥ 0)) (by kernel_rfl) (fun hb5 => ?_) (fun hb5 => ?_)
      ·have hm := condT hb5 hm
       refine cW_seq ?_
       refine cW_region ?_
       refine wS_pure 1 [(2, .bool (false))] (by kernel_rfl) ?_
       refine wS_end (by rfl) ?_
       refine eX_then ?_
       refine cW_prune [(2, .bool (false))] (by kernel_rfl) (by kernel_rfl) (fun a2 => ?_)
       refine cW_ret ?_
       refine eX_block_ret ?_
       refine eX_then_ret ?_
       have hq : (some (Ctl.out (Sum.inr false)) : Option (Ctl (Int) (Sum (Unit) ((Bool))))) = some _ := hm
       replace hq := someE hq
       subst hq
       refine eX_outR hx1 (fun hr => ?_)
       subst hr
       refine eX_block_ret ?_
       refine eX_then_ret ?_
       refine eX_then_ret ?_
       have hq : (some false : Option ((Bool))) = some _ := hm1
       replace hq := someE hq
       subst hq
       refine eX_ret (vs := [.bool (false)]) [.tmp 2] (by rfl) ⟨by (show lkE _ _ _ = _); kernel_rfl, trivial⟩ ?_
       exact ⟨rfl, hB⟩
      ·have hm := condF hb5 hm
       refine cW_skip ?_
       refine eX_block ?_
       refine eX_then ?_
       refine cW_region ?_
       refine wS_pure 3 [(3, .int .i64 (wr (x1 + 1))), (17, .int .i64 (wr (x1 + 1))), (16, .int .i64 (x1))] (by kernel_rfl) ?_
       refine wS_end (by rfl) ?_
       have hq : (some (Ctl.next (wr (x1 + 1))) : Option (Ctl (Int) (Sum (Unit) ((Bool))))) = some _ := hm
       replace hq := someE hq
       subst hq
       exact eX_next hx1 (fun hst => ⟨wr (x1 + 1), rfl, Fr.of hst (by kernel_rfl), F1, hB, hZ⟩)
    ·have hm := condF hb3 hm
     refine cW_exit ?_
     refine eX_then_exit ?_
     have hq : (some (Ctl.out (Sum.inl (()))) : Option (Ctl (Int) (Sum (Unit) ((Bool))))) = some _ := hm
     replace hq := someE hq
     subst hq
     refine eX_outX hx1 (fun hr2 => ?_)
     replace hr2 := hr2.symm
     subst hr2
     refine eX_block_hit ?_
     exact eX_J (fun hst => ⟨rfl, Fr.of hst (by kernel_rfl), hB, hZ⟩)
   ·rintro a' w5 ⟨hJ, hF2, hB, hZ⟩
    subst hJ
    refine Fr.goX hF2 (by kernel_rfl) ?_
    refine eX_then ?_
    refine cW_seq ?_
    refine cW_region ?_
    refine wS_pure 1 [(2, .bool (true))] (by kernel_rfl) ?_
    refine wS_end (by rfl) ?_
    refine eX_then ?_
    refine cW_ret ?_
    have hq : (some true : Option ((Bool))) = some _ := hm
    replace hq := someE hq
    subst hq
    refine eX_ret (vs := [.bool (true)]) [.tmp 2] (by rfl) ⟨by (show lkE _ _ _ = _); kernel_rfl, trivial⟩ ?_
    exact ⟨rfl, hB⟩

set_option maxRecDepth 100000 in
/-- spec.l05Few -/
theorem c_spec_l05Few {w0 : World} {l0 : List (Int × Int)} {A0 : Option Addr} {cap0 : Nat} {fp0 : List Nat} {r : (Bool)} (hm : m_spec_l05Few l0 = some r) (F0 : Sl 2 encII w0 fp0 A0 l0) (K0 : (l0).length ≤ cap0) :
  Calls Try.prog 18 #[.slice A0 (l0).length cap0] w0 fun e w' => e = .returned (.bool (r)) ∧ Chg [] w0 w' := by
 have L0 := F0.low
 have hB : Chg [] w0 w0 := Chg.refl _ _
 have hZ := Nat.le_refl w0.heap.size
 unfold m_spec_l05Few at hm
 refine enterE (N := 10) Try.func18 (by rfl) Try.ntmps18 (by simp) [(0, .slice A0 (l0).length cap0)] (by rfl) (by kernel_rfl) (fun a => ?_)
 refine cW_seq ?_
 refine cW_region ?_
 refine wS_pure 1 [(2, .bool (false))] (by kernel_rfl) ?_
 refine wS_end (by rfl) ?_
 refine eX_then ?_
 refine cW_seq ?_
 refine cW_region ?_
 refine wS_pure 1 [(3, .slice A0 (l0).length cap0)] (by kernel_rfl) ?_
 obtain ⟨y1, hy1, hm⟩ := bindE hm
 refine wS_calls (d := 4) (f := 34) (vs := [.slice A0 (l0).length cap0]) (by kernel_rfl) ent34 (c_spec_l05Is hy1 F0 K0) ?_
 rintro _ w1 ⟨rfl, hc1⟩
 replace F0 := F0.chg hc1 Dj.nil
 replace hB := hB.inS hc1 inNil
 replace hZ := Nat.le_trans hZ hc1.size
 refine ⟨.bool (y1), rfl, ?_⟩
 refine wS_pure 1 [(5, .bool (y1))] (by kernel_rfl) ?_
 refine wS_bool y1 (fun hb1 => ?_) (fun hb1 => ?_)
 ·have hm := condT hb1 hm
  rewrite [hb1]
  refine wS_pure 5 [(2, .bool (decide ((((l0).length : Int)) ≤ 7))), (9, .bool (decide ((((l0).length : Int)) ≤ 7))), (8, .bool (decide ((((l0).length : Int)) ≤ 7))), (7, .int .i64 (((l0).length : Int))), (6, .slice A0 (l0).length cap0)] (by kernel_rfl) ?_
  refine wS_end (by rfl) ?_
  refine eX_then ?_
  refine cW_ret ?_
  have hq : (some (decide ((((l0).length : Int)) ≤ 7)) : Option ((Bool))) = some _ := hm
  replace hq := someE hq
  subst hq
  refine eX_ret (vs := [.bool (decide ((((l0).length : Int)) ≤ 7))]) [.tmp 2] (by rfl) ⟨by (show lkE _ _ _ = _); kernel_rfl, trivial⟩ ?_
  exact ⟨rfl, hB⟩
 ·have hm := condF hb1 hm
  rewrite [hb1]
  refine wS_pure 5 [(2, .bool (false)), (9, .bool (false)), (8, undef), (7, undef), (6, undef)] (by kernel_rfl) ?_
  refine wS_end (by rfl) ?_
  refine eX_then ?_
  refine cW_ret ?_
  have hq : (some false : Option ((Bool))) = some _ := hm
  replace hq := someE hq
  subst hq
  refine eX_ret (vs := [.bool (false)]) [.tmp 2] (by rfl) ⟨by (show lkE _ _ _ = _); kernel_rfl, trivial⟩ ?_
  exact ⟨rfl, hB⟩

set_option maxRecDepth 100000 in
/-- spec.l00Max -/
theorem c_spec_l00Max {w0 : World} {p0 : Int} {p1 : Int} {r : (Int)} (hm : m_spec_l00Max p0 p1 = some r)  :
  Calls Try.prog 71 #[.int .i64 (p0), .int .i64 (p1)] w0 fun e w' => e = .returned (.int .i64 (r)) ∧ Chg [] w0 w' := by
 have hB : Chg [] w0 w0 := Chg.refl _ _
 have hZ := Nat.le_refl w0.heap.size
 unfold m_spec_l00Max at hm
 refine enterE (N := 10) Try.func71 (by rfl) Try.ntmps71 (by simp) [(0, .int .i64 (p0)), (1, .int .i64 (p1))] (by rfl) (by kernel_rfl) (fun a => ?_)
 refine cW_seq ?_
 refine cW_region ?_
 refine wS_pure 1 [(4, .int .i64 (0))] (by kernel_rfl) ?_
 refine wS_end (by rfl) ?_
 refine eX_then ?_
 refine cW_seq ?_
 refine cW_seq ?_
 refine cW_region ?_
 refine wS_pure 3 [(7, .bool (decide (p0 > p1))), (6, .int .i64 (p1)), (5, .int .i64 (p0))] (by kernel_rfl) ?_
 refine wS_end (by rfl) ?_
 refine eX_then ?_
 refine cW_cond (t := decide (p0 > p1)) (by kernel_rfl) (fun hb1 => ?_) (fun hb1 => ?_)
 ·have hm := condT hb1 hm
  refine cW_seq ?_
  refine cW_region ?_
  refine wS_pure 2 [(4, .int .i64 (p0)), (8, .int .i64 (p0))] (by kernel_rfl) ?_
  refine wS_end (by rfl) ?_
  refine eX_then ?_
  refine cW_ret ?_
  refine eX_then_ret ?_
  have hq : (some p0 : Option ((Int))) = some _ := hm
  replace hq := someE hq
  subst hq
  refine eX_ret (vs := [.int .i64 (p0)]) [.tmp 4] (by rfl) ⟨by (show lkE _ _ _ = _); kernel_rfl, trivial⟩ ?_
  exact ⟨rfl, hB⟩
 ·have hm := condF hb1 hm
  refine cW_skip ?_
  refine eX_then ?_
  refine cW_seq ?_
  refine cW_region ?_
  refine wS_pure 2 [(4, .int .i64 (p1)), (9, .int .i64 (p1))] (by kernel_rfl) ?_
  refine wS_end (by rfl) ?_
  refine eX_then ?_
  refine cW_ret ?_
  have hq : (some p1 : Option ((Int))) = some _ := hm
  replace hq := someE hq
  subst hq
  refine eX_ret (vs := [.int .i64 (p1)]) [.tmp 4] (by rfl) ⟨by (show lkE _ _ _ = _); kernel_rfl, trivial⟩ ?_
  exact ⟨rfl, hB⟩

set_option maxRecDepth 100000 in
/-- spec.l01Abs -/
theorem c_spec_l01Abs {w0 : World} {p0 : Int} {r : (Int)} (hm : m_spec_l01Abs p0 = some r)  :
  Calls Try.prog 55 #[.int .i64 (p0)] w0 fun e w' => e = .returned (.int .i64 (r)) ∧ Chg [] w0 w' := by
 have hB : Chg [] w0 w0 := Chg.refl _ _
 have hZ := Nat.le_refl w0.heap.size
 unfold m_spec_l01Abs at hm
 refine enterE (N := 7) Try.func55 (by rfl) Try.ntmps55 (by simp) [(0, .int .i64 (p0))] (by rfl) (by kernel_rfl) (fun a => ?_)
 refine cW_seq ?_
 refine cW_region ?_
 refine wS_pure 1 [(2, .int .i64 (0))] (by kernel_rfl) ?_
 refine wS_end (by rfl) ?_
 refine eX_then ?_
 refine cW_seq ?_
 refine cW_region ?_
 refine wS_pure 3 [(5, .int .i64 (wr (0 - p0))), (4, .int .i64 (p0)), (3, .int .i64 (p0))] (by kernel_rfl) ?_
 obtain ⟨y1, hy1, hm⟩ := bindE hm
 refine wS_calls (d := 6) (f := 71) (vs := [.int .i64 (p0), .int .i64 (wr (0 - p0))]) (by kernel_rfl) ent71 (c_spec_l00Max hy1) ?_
 rintro _ w1 ⟨rfl, hc1⟩
 replace hB := hB.inS hc1 inNil
 replace hZ := Nat.le_trans hZ hc1.size
 refine ⟨.int .i64 (y1), rfl, ?_⟩
 refine wS_pure 1 [(2, .int .i64 (y1))] (by kernel_rfl) ?_
 refine wS_end (by rfl) ?_
 refine eX_then ?_
 refine cW_ret ?_
 have hq : (some y1 : Option ((Int))) = some _ := hm
 replace hq := someE hq
 subst hq
 refine eX_ret (vs := [.int .i64 (y1)]) [.tmp 2] (by rfl) ⟨by (show lkE _ _ _ = _); kernel_rfl, trivial⟩ ?_
 exact ⟨rfl, hB⟩

set_option maxRecDepth 100000 in
/-- spec.l01Far -/
theorem c_spec_l01Far {w0 : World} {p0_0 : Int} {p0_1 : Int} {p1_0 : Int} {p1_1 : Int} {r : (Int)} (hm : m_spec_l01Far p0_0 p0_1 p1_0 p1_1 = some r)  :
  Calls Try.prog 37 #[.agg #[.int .i64 (p0_0), .int .i64 (p0_1)], .agg #[.int .i64 (p1_0), .int .i64 (p1_1)]] w0 fun e w' => e = .returned (.int .i64 (r)) ∧ Chg [] w0 w' := by
 have hB : Chg [] w0 w0 := Chg.refl _ _
 have hZ := Nat.le_refl w0.heap.size
 unfold m_spec_l01Far at hm
 refine enterE (N := 18) Try.func37 (by rfl) Try.ntmps37 (by simp) [(0, .agg #[.int .i64 (p0_0), .int .i64 (p0_1)]), (1, .agg #[.int .i64 (p1_0), .int .i64 (p1_1)])] (by rfl) (by kernel_rfl) (fun a => ?_)
 refine cW_seq ?_
 refine cW_region ?_
 refine wS_box (d := 2) (T := 34) (x := .agg #[.int .i64 (p0_0), .int .i64 (p0_1)]) (by kernel_rfl) ?_
 intro b1 w1 G1 F1 hc1
 replace F1 : Cl w1 b1 34 [.int .i64 (p0_0), .int .i64 (p0_1)] := F1
 replace hB := hB.inS hc1 inNil
 replace G1 := Nat.le_trans hZ G1
 replace hZ := Nat.le_trans hZ hc1.size
 refine wS_box (d := 3) (T := 34) (x := .agg #[.int .i64 (p1_0), .int .i64 (p1_1)]) (by kernel_rfl) ?_
 intro b2 w2 G2 F2 hc2
 replace F2 : Cl w2 b2 34 [.int .i64 (p1_0), .int .i64 (p1_1)] := F2
 have D1 : Dj [b1] [b2] := Dj.of (lt1 F1.lt) (low1 G2)
 replace F1 := F1.chg hc2 notNil
 replace hB := hB.inS hc2 inNil
 replace G2 := Nat.le_trans hZ G2
 replace hZ := Nat.le_trans hZ hc2.size
 refine wS_pure 1 [(4, .int .i64 (0))] (by kernel_rfl) ?_
 refine wS_end (by rfl) ?_
 refine eX_then ?_
 refine cW_seq ?_
 refine cW_drawnTail [] 11 (by kernel_rfl) (by kernel_rfl) (fun w3 hc3 => ?_)
 replace F1 := F1.chg hc3 notNil
 replace F2 := F2.chg hc3 notNil
 replace hB := hB.inS hc3 inNil
 replace hZ := Nat.le_trans hZ hc3.size
 have hS := Chg.refl [] w3
 have Z1 := F1
 have Z2 := F2
 refine wH_take [0] [0] [(5, .pointer (some ⟨b1, 0, none⟩))] (by kernel_rfl) (qT (qT qZ)) (by kernel_rfl) ?_
 refine wH_load1 (i := 1) (d := 6) (T := 2) (ad := ⟨b1, 0, none⟩) (v := .int .i64 (p0_0)) (by kernel_rfl) (qT (qT qZ)) (by kernel_rfl) (by kernel_rfl) vt2 (fun W hW => (Z1.chg hW notNil).cell 0) ?_
 refine wH_take [2] [2, 1, 0] [(7, .pointer (some ⟨b2, 0, none⟩))] (by kernel_rfl) (qT (qT qZ)) (by kernel_rfl) ?_
 refine wH_load1 (i := 3) (d := 8) (T := 2) (ad := ⟨b2, 0, none⟩) (v := .int .i64 (p1_0)) (by kernel_rfl) (qT (qT qZ)) (by kernel_rfl) (by kernel_rfl) vt2 (fun W hW => (Z2.chg hW notNil).cell 0) ?_
 refine wH_take [4, 6] [6, 4, 3, 2, 1, 0] [(11, .pointer (some ⟨b1, 1, none⟩)), (9, .int .i64 (wr (p0_0 - p1_0)))] (by kernel_rfl) (qT (qT qZ)) (by kernel_rfl) ?_
 refine wH_load1 (i := 7) (d := 12) (T := 2) (ad := ⟨b1, 1, none⟩) (v := .int .i64 (p0_1)) (by kernel_rfl) (qT (qT qZ)) (by kernel_rfl) (by kernel_rfl) vt2 (fun W hW => (Z1.chg hW notNil).cell 1) ?_
 refine wH_take [8] [8, 7, 6, 4, 3, 2, 1, 0] [(13, .pointer (some ⟨b2, 1, none⟩))] (by kernel_rfl) (qT (qT qZ)) (by kernel_rfl) ?_
 refine wH_load1 (i := 9) (d := 14) (T := 2) (ad := ⟨b2, 1, none⟩) (v := .int .i64 (p1_1)) (by kernel_rfl) (qT (qT qZ)) (by kernel_rfl) (by kernel_rfl) vt2 (fun W hW => (Z2.chg hW notNil).cell 1) ?_
 refine wH_take [10] [10, 9, 8, 7, 6, 4, 3, 2, 1, 0] [(15, .int .i64 (wr (p0_1 - p1_1)))] (by kernel_rfl) (qT (qT qZ)) (by kernel_rfl) ?_
 refine wH_all [5] (by rfl) (by kernel_rfl) (by simp) ⟨⟨by kernel_rfl, ?_⟩, trivial⟩
 obtain ⟨y1, hy1, hm⟩ := bindE hm
 refine wS_calls (d := 10) (f := 55) (vs := [.int .i64 (wr (p0_0 - p1_0))]) (by kernel_rfl) ent55 (c_spec_l01Abs hy1) ?_
 rintro _ w4 ⟨rfl, hc4⟩
 replace F1 := F1.chg hc4 notNil
 replace F2 := F2.chg hc4 notNil
 replace hB := hB.inS hc4 inNil
 have hSz := hS
 replace hS := hS.inS hc4 inNil
 replace hZ := Nat.le_trans hZ hc4.size
 refine ⟨.int .i64 (y1), rfl, ?_⟩
 refine wS_end (by kernel_rfl) ?_
 refine eX_KH hS ?_
 refine wH_done (by kernel_rfl) ?_
 refine eX_tail ?_
 obtain ⟨y2, hy2, hm⟩ := bindE hm
 refine wS_calls (d := 16) (f := 55) (vs := [.int .i64 (wr (p0_1 - p1_1))]) (by kernel_rfl) ent55 (c_spec_l01Abs hy2) ?_
 rintro _ w5 ⟨rfl, hc5⟩
 replace F1 := F1.chg hc5 notNil
 replace F2 := F2.chg hc5 notNil
 replace hB := hB.inS hc5 inNil
 replace hZ := Nat.le_trans hZ hc5.size
 refine ⟨.int .i64 (y2), rfl, ?_⟩
 refine wS_pure 2 [(4, .int .i64 (wr (y1 + y2))), (17, .int .i64 (wr (y1 + y2)))] (by kernel_rfl) ?_
 refine wS_end (by rfl) ?_
 refine eX_then ?_
 refine cW_ret ?_
 have hq : (some (wr (y1 + y2)) : Option ((Int))) = some _ := hm
 replace hq := someE hq
 subst hq
 refine eX_ret (vs := [.int .i64 (wr (y1 + y2))]) [.tmp 4] (by rfl) ⟨by (show lkE _ _ _ = _); kernel_rfl, trivial⟩ ?_
 exact ⟨rfl, hB⟩

set_option maxRecDepth 100000 in
/-- spec.l05Tree -/
theorem c_spec_l05Tree {w0 : World} {l0 : List (Int × Int)} {A0 : Option Addr} {cap0 : Nat} {fp0 : List Nat} {r : (List (List (Int))) × (Int)} (hm : m_spec_l05Tree l0 = some r) (F0 : Sl 2 encII w0 fp0 A0 l0) :
  Calls Try.prog 19 #[.slice A0 (l0).length cap0] w0 fun e w' => ∃ A100 cap100 fp100 fr100, e = .returned (.tuple #[.slice A100 (r.1).length cap100, .int .i64 (r.2)]) ∧ OwR 1 encI 66 2 w' fp100 fr100 A100 cap100 r.1 ∧ (∀ x ∈ fp100 ++ fr100, w0.heap.size ≤ x) ∧ Chg [] w0 w' := by
 have L0 := F0.low
 have hB : Chg [] w0 w0 := Chg.refl _ _
 have hZ := Nat.le_refl w0.heap.size
 unfold m_spec_l05Tree at hm
 refine enterE (N := 88) Try.func19 (by rfl) Try.ntmps19 (by simp) [(0, .slice A0 (l0).length cap0)] (by rfl) (by kernel_rfl) (fun a => ?_)
 refine cW_seq ?_
 refine cW_region ?_
 refine wS_pure 2 [(3, .int .i64 (0)), (2, .slice none 0 0)] (by kernel_rfl) ?_
 refine wS_end (by rfl) ?_
 refine eX_then ?_
 refine cW_seq ?_
 refine cW_region ?_
 refine wS_pure 3 [(4, .int .i64 (((l0).length : Int))), (14, .int .i64 (((l0).length : Int))), (13, .slice A0 (l0).length cap0)] (by kernel_rfl) ?_
 refine wS_end (by rfl) ?_
 refine eX_then ?_
 refine cW_seq ?_
 refine cW_region ?_
 refine wS_pure 1 [(15, .int .i64 (((l0).length : Int)))] (by kernel_rfl) ?_
 obtain ⟨_, hk1, hm⟩ := bindE hm
 replace hk1 := mkE hk1
 refine wS_make (enc := encB) (x0 := (false : Bool)) (d := 16) (t := 65) (T := 4) (k1 := .i64) (k2 := .i64) (m := ((l0).length : Int)) (by kernel_rfl) el65 encB_ok (by rfl) hk1.1 hk1.2 ?_
 intro b1 w1 G1 F1 hc1
 replace F0 := F0.chg hc1 Dj.nil
 replace hB := hB.inS hc1 inNil
 replace G1 := Nat.le_trans hZ G1
 replace G1 := low1 G1
 replace hZ := Nat.le_trans hZ hc1.size
 refine wS_pure 1 [(5, .slice (some ⟨b1, 0, none⟩) (List.replicate (Int.toNat (((l0).length : Int))) ((false : Bool))).length (Int.toNat (((l0).length : Int))))] (by kernel_rfl) ?_
 refine wS_end (by rfl) ?_
 refine eX_then ?_
 refine cW_seq ?_
 refine cW_region ?_
 refine wS_pure 1 [(17, .slice (some ⟨b1, 0, none⟩) (List.replicate (Int.toNat (((l0).length : Int))) ((false : Bool))).length (Int.toNat (((l0).length : Int))))] (by kernel_rfl) ?_
 obtain ⟨x1, hx1, hm⟩ := bindE hm
 refine wS_idx (d := 18) (T := 65) (A := (some ⟨b1, 0, none⟩)) (n := (List.replicate (Int.toNat (((l0).length : Int))) ((false : Bool))).length) (cap := (Int.toNat (((l0).length : Int)))) (kd := .i64) (m := 0) (by kernel_rfl) sl65 ((F1.sl encB_ok).is hx1) ?_
 refine wS_storeEl (x := x1) true (T := 4) (U := 4) (cap := (Int.toNat (((l0).length : Int)))) (j := 0) (A := (some ⟨b1, 0, none⟩)) (v := .bool (true)) (vs := [.bool (true)]) (m := 0) (by kernel_rfl) (by rfl) sz4 (by rfl) encB_ok F1 hx1 (by simp only [List.length_cons, List.length_nil]; omega) (by rfl) ?_
 intro w2 F2 hc2
 replace F0 := F0.chg hc2 (Dj.of L0 G1)
 replace hB := hB.inS hc2 (inLow G1)
 replace hZ := Nat.le_trans hZ hc2.size
 clear F1
 rewrite [show (List.replicate (Int.toNat (((l0).length : Int))) ((false : Bool))).length = ((List.replicate (Int.toNat (((l0).length : Int))) ((false : Bool))).set (Int.toNat 0) true).length from (List.length_set ..).symm]
 refine wS_end (by rfl) ?_
 refine eX_then ?_
 refine cW_seq ?_
 refine cW_region ?_
 refine wS_rows0 (k := 1) (enc := encI) (d := 19) (t := 40) (T := 66) (T2 := 2) (by kernel_rfl) el40 ?_
 intro b2 w3 G2 F3 hc3
 have D1 : Dj [b1] ([b2] ++ []) := Dj.of F2.low (lowApp (low1 G2) lowNil)
 replace F0 := F0.chg hc3 Dj.nil
 replace F2 := F2.chg hc3 Dj.nil
 replace hB := hB.inS hc3 inNil
 replace G2 := Nat.le_trans hZ G2
 replace G2 := low1 G2
 replace hZ := Nat.le_trans hZ hc3.size
 replace G2 := lowApp G2 lowNil
 refine wS_pure 1 [(6, .slice (some ⟨b2, 0, none⟩) (([] : List (List (Int)))).length 0)] (by kernel_rfl) ?_
 refine wS_end (by rfl) ?_
 refine eX_then ?_
 refine cW_seq ?_
 refine cW_region ?_
 refine wS_pure 1 [(7, .int .i64 (0))] (by kernel_rfl) ?_
 refine wS_end (by rfl) ?_
 refine eX_then ?_
 refine cW_seq ?_
 obtain ⟨r1, hr1, hm⟩ := bindE hm
 have hm1 := hm
 refine cW_cut (fun a' w' => ∃ l1 : List (List (Int)), ∃ A1 : Option Addr, ∃ cap1 : Nat, ∃ fp1 : List Nat, ∃ fr1 : List Nat, ∃ x2 : Int, (l1, x2) = r1 ∧ Fr 88 [(6, .slice A1 (l1).length cap1), (7, .int .i64 (x2))] a' ∧ OwR 1 encI 66 2 w' fp1 fr1 A1 cap1 l1 ∧ (∀ x ∈ (fp1 ++ fr1), w0.heap.size ≤ x) ∧ Chg [] w0 w' ∧ w0.heap.size ≤ w'.heap.size) ?_ ?_
 ·refine cW_block ?_
  refine cW_loop _ (fun (s1 : (List (List (Int))) × Int × (List (Bool))) a' w' => ∃ l2 : List (List (Int)), ∃ A3 : Option Addr, ∃ cap3 : Nat, ∃ fp2 : List Nat, ∃ fr2 : List Nat, ∃ x3 : Int, ∃ l3 : List (Bool), (l2, x3, l3) = s1 ∧ Fr 88 [(0, .slice A0 (l0).length cap0), (4, .int .i64 (((l0).length : Int))), (5, .slice (some ⟨b1, 0, none⟩) (l3).length (Int.toNat (((l0).length : Int)))), (6, .slice A3 (l2).length cap3), (7, .int .i64 (x3))] a' ∧ Sl 2 encII w' fp0 A0 l0 ∧ Ow 1 encB 4 w' [b1] (some ⟨b1, 0, none⟩) (Int.toNat (((l0).length : Int))) l3 ∧ OwR 1 encI 66 2 w' fp2 fr2 A3 cap3 l2 ∧ (∀ x ∈ (fp2 ++ fr2), w0.heap.size ≤ x) ∧ Dj [b1] (fp2 ++ fr2) ∧ Chg [] w0 w' ∧ w0.heap.size ≤ w'.heap.size) hr1 (fun hst => ⟨([] : List (List (Int))), (some ⟨b2, 0, none⟩), 0, [b2], [], 0, (List.replicate (Int.toNat (((l0).length : Int))) ((false : Bool))).set (Int.toNat 0) true, rfl, Fr.of hst (by kernel_rfl), F0, F2, F3, G2, D1, hB, hZ⟩) ?_
  rintro _ c1 a' w4 ⟨l2, A3, cap3, fp2, fr2, x3, l3, rfl, hF1, F4, F5, F6, G3, D2, hB, hZ⟩ hx2
  refine Fr.goOn hF1 (by kernel_rfl) ?_
  have hm := hx2
  unfold m_spec_l05Tree_s9 at hm
  refine cW_seq ?_
  refine cW_seq ?_
  refine cW_region ?_
  refine wS_pure 5 [(24, .bool (decide ((((l2).length : Int)) < (wr ((((l0).length : Int)) - 1))))), (23, .int .i64 (wr ((((l0).length : Int)) - 1))), (22, .int .i64 (((l0).length : Int))), (21, .int .i64 (((l2).length : Int))), (20, .slice A3 (l2).length cap3)] (by kernel_rfl) ?_
  refine wS_end (by rfl) ?_
  refine eX_then ?_
  refine cW_cond (t := decide ((((l2).length : Int)) < (wr ((((l0).length : Int)) - 1)))) (by kernel_rfl) (fun hb1 => ?_) (fun hb1 => ?_)
  ·have hm := condT hb1 hm
   refine cW_skip ?_
   refine eX_then ?_
   refine cW_block ?_
   refine cW_seq ?_
   refine cW_region ?_
   refine wS_bs0 (α := Int) (enc := encI) (d := 25) (t := 66) (T := 2) (by kernel_rfl) el66 ?_
   intro b3 w5 G4 F7 hc4
   have D3 : Dj [b1] [b3] := Dj.of F5.low (low1 G4)
   have D4 : Dj (fp2 ++ fr2) [b3] := Dj.of F6.low (low1 G4)
   replace F4 := F4.chg hc4 Dj.nil
   replace F5 := F5.chg hc4 Dj.nil
   replace F6 := F6.chg hc4 Dj.nil
   replace hB := hB.inS hc4 inNil
   replace G4 := Nat.le_trans hZ G4
   replace G4 := low1 G4
   replace hZ := Nat.le_trans hZ hc4.size
   refine wS_pure 1 [(8, .slice (some ⟨b3, 0, none⟩) (([] : List (Int))).length 0)] (by kernel_rfl) ?_
   refine wS_end (by rfl) ?_
   refine eX_then ?_
   refine cW_seq ?_
   refine cW_region ?_
   refine wS_pure 1 [(9, .int .i64 ((-1)))] (by kernel_rfl) ?_
   refine wS_end (by rfl) ?_
   refine eX_then ?_
   refine cW_seq ?_
   refine cW_seq ?_
   refine cW_region ?_
   refine wS_pure 1 [(10, .int .i64 (0))] (by kernel_rfl) ?_
   refine wS_end (by rfl) ?_
   refine eX_then ?_
   obtain ⟨r2, hr2, hm⟩ := bindE hm
   have hm2 := hm
   refine cW_cut (fun a' w' => ∃ l4 : List (Int), ∃ A4 : Option Addr, ∃ cap4 : Nat, ∃ fp3 : List Nat, ∃ x4 : Int, (l4, x4) = r2 ∧ Fr 88 [(0, .slice A0 (l0).length cap0), (4, .int .i64 (((l0).length : Int))), (5, .slice (some ⟨b1, 0, none⟩) (l3).length (Int.toNat (((l0).length : Int)))), (6, .slice A3 (l2).length cap3), (7, .int .i64 (x3)), (8, .slice A4 (l4).length cap4), (9, .int .i64 (x4))] a' ∧ Sl 2 encII w' fp0 A0 l0 ∧ Ow 1 encB 4 w' [b1] (some ⟨b1, 0, none⟩) (Int.toNat (((l0).length : Int))) l3 ∧ OwR 1 encI 66 2 w' fp2 fr2 A3 cap3 l2 ∧ Ow 1 encI 2 w' fp3 A4 cap4 l4 ∧ (∀ x ∈ fp3, w0.heap.size ≤ x) ∧ Dj [b1] fp3 ∧ Dj (fp2 ++ fr2) fp3 ∧ Chg [] w0 w' ∧ w0.heap.size ≤ w'.heap.size) ?_ ?_
   ·refine cW_block ?_
    refine cW_loop _ (fun (s2 : (List (Int)) × Int × Int) a' w' => ∃ l5 : List (Int), ∃ A5 : Option Addr, ∃ cap5 : Nat, ∃ fp4 : List Nat, ∃ x5 : Int, ∃ x6 : Int, (l5, x5, x6) = s2 ∧ Fr 88 [(0, .slice A0 (l0).length cap0), (4, .int .i64 (((l0).length : Int))), (5, .slice (some ⟨b1, 0, none⟩) (l3).length (Int.toNat (((l0).length : Int)))), (6, .slice A3 (l2).length cap3), (7, .int .i64 (x3)), (8, .slice A5 (l5).length cap5), (9, .int .i64 (x5)), (10, .int .i64 (x6))] a' ∧ Sl 2 encII w' fp0 A0 l0 ∧ Ow 1 encB 4 w' [b1] (some ⟨b1, 0, none⟩) (Int.toNat (((l0).length : Int))) l3 ∧ OwR 1 encI 66 2 w' fp2 fr2 A3 cap3 l2 ∧ Ow 1 encI 2 w' fp4 A5 cap5 l5 ∧ (∀ x ∈ fp4, w0.heap.size ≤ x) ∧ Dj [b1] fp4 ∧ Dj (fp2 ++ fr2) fp4 ∧ Chg [] w0 w' ∧ w0.heap.size ≤ w'.heap.size) hr2 (fun hst => ⟨([] : List (Int)), (some ⟨b3, 0, none⟩), 0, [b3], (-1), 0, rfl, Fr.of hst (by kernel_rfl), F4, F5, F6, F7, G4, D3, D4, hB, hZ⟩) ?_
    rintro _ c2 a' w6 ⟨l5, A5, cap5, fp4, x5, x6, rfl, hF2, F8, F9, F10, F11, G5, D5, D6, hB, hZ⟩ hx3
    refine Fr.goOn hF2 (by kernel_rfl) ?_
    have hm := hx3
    unfold m_spec_l05Tree_s12 at hm
    refine cW_seq ?_
    refine cW_seq ?_
    refine cW_region ?_
    refine wS_pure 3 [(28, .bool (decide (x6 < (((l0).length : Int))))), (27, .int .i64 (((l0).length : Int))), (26, .int .i64 (x6))] (by kernel_rfl) ?_
    refine wS_end (by rfl) ?_
    refine eX_then ?_
    refine cW_cond (t := decide (x6 < (((l0).length : Int)))) (by kernel_rfl) (fun hb2 => ?_) (fun hb2 => ?_)
    ·have hm := condT hb2 hm
     refine cW_skip ?_
     refine eX_then ?_
     refine cW_seq ?_
     refine cW_block ?_
     refine cW_seq ?_
     refine cW_region ?_
     refine wS_pure 3 [(11, .int .i64 (wr (x6 + 1))), (32, .int .i64 (wr (x6 + 1))), (31, .int .i64 (x6))] (by kernel_rfl) ?_
     refine wS_end (by rfl) ?_
     refine eX_then ?_
     obtain ⟨r3, hr3, hm⟩ := bindE hm
     have hm3 := hm
     refine cW_cut (fun a' w' => ∃ l6 : List (Int), ∃ A6 : Option Addr, ∃ cap6 : Nat, ∃ fp5 : List Nat, ∃ x7 : Int, (l6, x7) = r3 ∧ Fr 88 [(0, .slice A0 (l0).length cap0), (4, .int .i64 (((l0).length : Int))), (5, .slice (some ⟨b1, 0, none⟩) (l3).length (Int.toNat (((l0).length : Int)))), (6, .slice A3 (l2).length cap3), (7, .int .i64 (x3)), (8, .slice A6 (l6).length cap6), (9, .int .i64 (x7)), (10, .int .i64 (x6))] a' ∧ Sl 2 encII w' fp0 A0 l0 ∧ Ow 1 encB 4 w' [b1] (some ⟨b1, 0, none⟩) (Int.toNat (((l0).length : Int))) l3 ∧ OwR 1 encI 66 2 w' fp2 fr2 A3 cap3 l2 ∧ Ow 1 encI 2 w' fp5 A6 cap6 l6 ∧ (∀ x ∈ fp5, w0.heap.size ≤ x) ∧ Dj [b1] fp5 ∧ Dj (fp2 ++ fr2) fp5 ∧ Chg [] w0 w' ∧ w0.heap.size ≤ w'.heap.size) ?_ ?_
     ·refine cW_block ?_
      refine cW_loop _ (fun (s3 : (List (Int)) × Int × Int) a' w' => ∃ l7 : List (Int), ∃ A7 : Option Addr, ∃ cap7 : Nat, ∃ fp6 : List Nat, ∃ x8 : Int, ∃ x9 : Int, (l7, x8, x9) = s3 ∧ Fr 88 [(0, .slice A0 (l0).length cap0), (4, .int .i64 (((l0).length : Int))), (5, .slice (some ⟨b1, 0, none⟩) (l3).length (Int.toNat (((l0).length : Int)))), (6, .slice A3 (l2).length cap3), (7, .int .i64 (x3)), (8, .slice A7 (l7).length cap7), (9, .int .i64 (x8)), (10, .int .i64 (x6)), (11, .int .i64 (x9))] a' ∧ Sl 2 encII w' fp0 A0 l0 ∧ Ow 1 encB 4 w' [b1] (some ⟨b1, 0, none⟩) (Int.toNat (((l0).length : Int))) l3 ∧ OwR 1 encI 66 2 w' fp2 fr2 A3 cap3 l2 ∧ Ow 1 encI 2 w' fp6 A7 cap7 l7 ∧ (∀ x ∈ fp6, w0.heap.size ≤ x) ∧ Dj [b1] fp6 ∧ Dj (fp2 ++ fr2) fp6 ∧ Chg [] w0 w' ∧ w0.heap.size ≤ w'.heap.size) hr3 (fun hst => ⟨l5, A5, cap5, fp4, x5, wr (x6 + 1), rfl, Fr.of hst (by kernel_rfl), F8, F9, F10, F11, G5, D5, D6, hB, hZ⟩) ?_
      rintro _ c3 a' w7 ⟨l7, A7, cap7, fp6, x8, x9, rfl, hF3, F12, F13, F14, F15, G6, D7, D8, hB, hZ⟩ hx4
      refine Fr.goOn hF3 (by kernel_rfl) ?_
      have hm := hx4
      unfold m_spec_l05Tree_s13 at hm
      refine cW_seq ?_
      refine cW_seq ?_
      refine cW_region ?_
      refine wS_pure 3 [(35, .bool (decide (x9 < (((l0).length : Int))))), (34, .int .i64 (((l0).length : Int))), (33, .int .i64 (x9))] (by kernel_rfl) ?_
      refine wS_end (by rfl) ?_
      refine eX_then ?_
      refine cW_cond (t := decide (x9 < (((l0).length : Int)))) (by kernel_rfl) (fun hb3 => ?_) (fun hb3 => ?_)
      ·have hm := condT hb3 hm
       refine cW_skip ?_
       refine eX_then ?_
       refine cW_seq ?_
       refine cW_block ?_
       obtain ⟨s4, hs1, hm⟩ := bindE hm
       refine cW_cut (fun a' w' => ∃ l8 : List (Int), ∃ A8 : Option Addr, ∃ cap8 : Nat, ∃ fp7 : List Nat, ∃ x10 : Int, (l8, x10) = s4 ∧ Fr 88 [(0, .slice A0 (l0).length cap0), (4, .int .i64 (((l0).length : Int))), (5, .slice (some ⟨b1, 0, none⟩) (l3).length (Int.toNat (((l0).length : Int)))), (6, .slice A3 (l2).length cap3), (7, .int .i64 (x3)), (8, .slice A8 (l8).length cap8), (9, .int .i64 (x10)), (10, .int .i64 (x6)), (11, .int .i64 (x9))] a' ∧ Sl 2 encII w' fp0 A0 l0 ∧ Ow 1 encB 4 w' [b1] (some ⟨b1, 0, none⟩) (Int.toNat (((l0).length : Int))) l3 ∧ OwR 1 encI 66 2 w' fp2 fr2 A3 cap3 l2 ∧ Ow 1 encI 2 w' fp7 A8 cap8 l8 ∧ (∀ x ∈ fp7, w0.heap.size ≤ x) ∧ Dj [b1] fp7 ∧ Dj (fp2 ++ fr2) fp7 ∧ Chg [] w0 w' ∧ w0.heap.size ≤ w'.heap.size) ?_ ?_
       ·have hm := hs1
        refine cW_seq ?_
        refine cW_drawnTail [] 8 (by kernel_rfl) (by kernel_rfl) (fun w8 hc5 => ?_)
        replace F12 := F12.chg hc5 Dj.nil
        replace F13 := F13.chg hc5 Dj.nil
        replace F14 := F14.chg hc5 Dj.nil
        replace F15 := F15.chg hc5 Dj.nil
        replace hB := hB.inS hc5 inNil
        replace hZ := Nat.le_trans hZ hc5.size
        have hS := Chg.refl [] w8
        have Z1 := F12
        have Z2 := F13
        have Z3 := F14
        have Z4 := F15
        refine wH_take [0, 1] [1, 0] [(39, .int .i64 (x6)), (38, .slice A0 (l0).length cap0)] (by kernel_rfl) (qT (qT (qT (qB (qT (qL (qB (qT (qB (qT (qL (qB (qT (qT (qB (qL (qB (qT (qT qZ))))))))))))))))))) (by kernel_rfl) ?_
        obtain ⟨x11, hx5, hm⟩ := bindE hm
        refine wH_idx (i := 2) (d := 40) (T := 26) (A := A0) (n := (l0).length) (cap := cap0) (kd := .i64) (m := x6) (by kernel_rfl) (qT (qT (qT (qB (qT (qL (qB (qT (qB (qT (qL (qB (qT (qT (qB (qL (qB (qT (qT qZ))))))))))))))))))) (by kernel_rfl) (by kernel_rfl) sl26 (F12.is hx5) ?_
        refine wH_loadA (i := 3) (d := 41) (T := 34) (ad := (elA A0 2 (x6) 0)) (vs := [.int .i64 (x11.1), .int .i64 (x11.2)]) (by kernel_rfl) (qT (qT (qT (qB (qT (qL (qB (qT (qB (qT (qL (qB (qT (qT (qB (qL (qB (qT (qT qZ))))))))))))))))))) (by kernel_rfl) (by kernel_rfl) vt34 (fun W hW i u hu => Sl.cells_at (Z1.chg hW Dj.nil) hx5 0 hu (by rfl)) ?_
        refine wH_take [4, 5] [5, 4, 3, 2, 1, 0] [(43, .int .i64 (x9)), (42, .slice A0 (l0).length cap0)] (by kernel_rfl) (qT (qT (qT (qB (qT (qL (qB (qT (qB (qT (qL (qB (qT (qT (qB (qL (qB (qT (qT qZ))))))))))))))))))) (by kernel_rfl) ?_
        obtain ⟨x12, hx6, hm⟩ := bindE hm
        refine wH_idx (i := 6) (d := 44) (T := 26) (A := A0) (n := (l0).length) (cap := cap0) (kd := .i64) (m := x9) (by kernel_rfl) (qT (qT (qT (qB (qT (qL (qB (qT (qB (qT (qL (qB (qT (qT (qB (qL (qB (qT (qT qZ))))))))))))))))))) (by kernel_rfl) (by kernel_rfl) sl26 (F12.is hx6) ?_
        refine wH_loadA (i := 7) (d := 45) (T := 34) (ad := (elA A0 2 (x9) 0)) (vs := [.int .i64 (x12.1), .int .i64 (x12.2)]) (by kernel_rfl) (qT (qT (qT (qB (qT (qL (qB (qT (qB (qT (qL (qB (qT (qT (qB (qL (qB (qT (qT qZ))))))))))))))))))) (by kernel_rfl) (by kernel_rfl) vt34 (fun W hW i u hu => Sl.cells_at (Z1.chg hW Dj.nil) hx6 0 hu (by rfl)) ?_
        refine wH_done (by kernel_rfl) ?_
        refine eX_tail ?_
        obtain ⟨y1, hy1, hm⟩ := bindE hm
        refine wS_calls (d := 46) (f := 37) (vs := [.agg #[.int .i64 (x11.1), .int .i64 (x11.2)], .agg #[.int .i64 (x12.1), .int .i64 (x12.2)]]) (by kernel_rfl) ent37 (c_spec_l01Far hy1) ?_
        rintro _ w9 ⟨rfl, hc6⟩
        replace F12 := F12.chg hc6 Dj.nil
        replace F13 := F13.chg hc6 Dj.nil
        replace F14 := F14.chg hc6 Dj.nil
        replace F15 := F15.chg hc6 Dj.nil
        replace hB := hB.inS hc6 inNil
        replace hZ := Nat.le_trans hZ hc6.size
        refine ⟨.int .i64 (y1), rfl, ?_⟩
        refine wS_pure 1 [(12, .int .i64 (y1))] (by kernel_rfl) ?_
        refine wS_end (by rfl) ?_
        refine eX_then ?_
        refine cW_seq ?_
        refine cW_drawnTail [] 15 (by kernel_rfl) (by kernel_rfl) (fun w10 hc7 => ?_)
        replace F12 := F12.chg hc7 Dj.nil
        replace F13 := F13.chg hc7 Dj.nil
        replace F14 := F14.chg hc7 Dj.nil
        replace F15 := F15.chg hc7 Dj.nil
        replace hB := hB.inS hc7 inNil
        replace hZ := Nat.le_trans hZ hc7.size
        have hS := Chg.refl [] w10
        have Z5 := F12
        have Z6 := F13
        have Z7 := F14
        have Z8 := F15
        refine wH_take [0, 1] [1, 0] [(48, .int .i64 (x6)), (47, .slice (some ⟨b1, 0, none⟩) (l3).length (Int.toNat (((l0).length : Int))))] (by kernel_rfl) (qT (qT (qT (qB (qT (qL (qB (qT (qB (qT (qL (qB (qT (qT (qB (qL (qB (qT (qT qZ))))))))))))))))))) (by kernel_rfl) ?_
        obtain ⟨x13, hx7, hm⟩ := bindE hm
        refine wH_idx (i := 2) (d := 49) (T := 65) (A := (some ⟨b1, 0, none⟩)) (n := (l3).length) (cap := (Int.toNat (((l0).length : Int)))) (kd := .i64) (m := x6) (by kernel_rfl) (qT (qT (qT (qB (qT (qL (qB (qT (qB (qT (qL (qB (qT (qT (qB (qL (qB (qT (qT qZ))))))))))))))))))) (by kernel_rfl) (by kernel_rfl) sl65 ((F13.sl encB_ok).is hx7) ?_
        refine wH_load1 (i := 3) (d := 50) (T := 4) (ad := (elA (some ⟨b1, 0, none⟩) 1 (x6) 0)) (v := .bool (x13)) (by kernel_rfl) (qT (qT (qT (qB (qT (qL (qB (qT (qB (qT (qL (qB (qT (qT (qB (qL (qB (qT (qT qZ))))))))))))))))))) (by kernel_rfl) (by kernel_rfl) vt4 (fun W hW => Sl.cell ((Z6.chg hW Dj.nil).sl encB_ok) hx7 0 (by rfl)) ?_
        refine wH_take [4, 5] [5, 4, 3, 2, 1, 0] [(52, .int .i64 (x9)), (51, .slice (some ⟨b1, 0, none⟩) (l3).length (Int.toNat (((l0).length : Int))))] (by kernel_rfl) (qT (qT (qT (qB (qT (qL (qB (qT (qB (qT (qL (qB (qT (qT (qB (qL (qB (qT (qT qZ))))))))))))))))))) (by kernel_rfl) ?_
        obtain ⟨x14, hx8, hm⟩ := bindE hm
        refine wH_idx (i := 6) (d := 53) (T := 65) (A := (some ⟨b1, 0, none⟩)) (n := (l3).length) (cap := (Int.toNat (((l0).length : Int)))) (kd := .i64) (m := x9) (by kernel_rfl) (qT (qT (qT (qB (qT (qL (qB (qT (qB (qT (qL (qB (qT (qT (qB (qL (qB (qT (qT qZ))))))))))))))))))) (by kernel_rfl) (by kernel_rfl) sl65 ((F13.sl encB_ok).is hx8) ?_
        refine wH_load1 (i := 7) (d := 54) (T := 4) (ad := (elA (some ⟨b1, 0, none⟩) 1 (x9) 0)) (v := .bool (x14)) (by kernel_rfl) (qT (qT (qT (qB (qT (qL (qB (qT (qB (qT (qL (qB (qT (qT (qB (qL (qB (qT (qT qZ))))))))))))))))))) (by kernel_rfl) (by kernel_rfl) vt4 (fun W hW => Sl.cell ((Z6.chg hW Dj.nil).sl encB_ok) hx8 0 (by rfl)) ?_
        refine wH_take [8, 9] [9, 8, 7, 6, 5, 4, 3, 2, 1, 0] [(56, .bool (!(x13 == x14))), (55, .bool (!(x13 == x14)))] (by kernel_rfl) (qT (qT (qT (qB (qT (qL (qB (qT (qB (qT (qL (qB (qT (qT (qB (qL (qB (qT (qT qZ))))))))))))))))))) (by kernel_rfl) ?_
        refine wH_bool (!(x13 == x14)) (fun hb4 => ?_) (fun hb4 => ?_)
        ·have hm := condT hb4 hm
         rewrite [hb4]
         refine wH_take [10, 11, 12] [12, 11, 10, 9, 8, 7, 6, 5, 4, 3, 2, 1, 0] [(59, .bool (decide (x8 < 0))), (58, .bool (decide (x8 < 0))), (57, .int .i64 (x8))] (by kernel_rfl) (qT (qT (qT (qB (qT (qL (qB (qT (qB (qT (qL (qB (qT (qT (qB (qL (qB (qT (qT qZ))))))))))))))))))) (by kernel_rfl) ?_
         refine wH_bool (decide (x8 < 0)) (fun hb5 => ?_) (fun hb5 => ?_)
         ·have hm := condT hb5 hm
          rewrite [hb5]
          refine wH_take [13, 14] [14, 13, 12, 11, 10, 9, 8, 7, 6, 5, 4, 3, 2, 1, 0] [(61, undef), (60, undef)] (by kernel_rfl) (qT (qT (qT (qB (qT (qL (qB (qT (qB (qT (qL (qB (qT (qT (qB (qL (qB (qT (qT qZ))))))))))))))))))) (by kernel_rfl) ?_
          refine wH_done (by kernel_rfl) ?_
          refine eX_tail ?_
          refine wS_pure 3 [(64, .bool (true)), (63, .bool (true)), (62, undef)] (by kernel_rfl) ?_
          refine wS_end (by rfl) ?_
          refine eX_then ?_
          refine cW_prune [(0, .slice A0 (l0).length cap0), (4, .int .i64 (((l0).length : Int))), (5, .slice (some ⟨b1, 0, none⟩) (l3).length (Int.toNat (((l0).length : Int)))), (6, .slice A3 (l2).length cap3), (7, .int .i64 (x3)), (8, .slice A7 (l7).length cap7), (9, .int .i64 (x8)), (10, .int .i64 (x6)), (11, .int .i64 (x9)), (12, .int .i64 (y1)), (64, .bool (true))] (by kernel_rfl) (by kernel_rfl) (fun a1 => ?_)
          refine cW_cond_t (by kernel_rfl) ?_
          refine cW_seq ?_
          refine cW_region ?_
          refine wS_pure 2 [(66, .int .i64 (x9)), (65, .int .i64 (x6))] (by kernel_rfl) ?_
          refine wS_bs (enc := encI) ([x6, x9] : List (Int)) [.int .i64 (x6), .int .i64 (x9)] (d := 67) (t := 66) (T := 2) (n := 2) (ps := [(0, .int .i64 (x6)), (1, .int .i64 (x9))]) (by kernel_rfl) el66 encI_ok (by rfl) (by omega) (by omega) (by kernel_rfl) (by rfl) ?_
          intro b4 w11 G7 F16 hc8
          have D9 : Dj [b1] [b4] := Dj.of F13.low (low1 G7)
          have D10 : Dj (fp2 ++ fr2) [b4] := Dj.of F14.low (low1 G7)
          have D11 : Dj fp6 [b4] := Dj.of F15.low (low1 G7)
          replace F12 := F12.chg hc8 Dj.nil
          replace F13 := F13.chg hc8 Dj.nil
          replace F14 := F14.chg hc8 Dj.nil
          replace F15 := F15.chg hc8 Dj.nil
          replace hB := hB.inS hc8 inNil
          replace G7 := Nat.le_trans hZ G7
          replace G7 := low1 G7
          replace hZ := Nat.le_trans hZ hc8.size
          refine wS_pure 1 [(8, .slice (some ⟨b4, 0, none⟩) (([x6, x9] : List (Int))).length 2)] (by kernel_rfl) ?_
          refine wS_end (by rfl) ?_
          refine eX_then ?_
          refine cW_region ?_
          refine wS_pure 2 [(9, .int .i64 (y1)), (68, .int .i64 (y1))] (by kernel_rfl) ?_
          refine wS_end (by rfl) ?_
          have hq : (some ((([x6, x9] : List (Int)), y1)) : Option ((List (Int)) × Int)) = some _ := hm
          replace hq := someE hq
          subst hq
          exact eX_J (fun hst => ⟨([x6, x9] : List (Int)), (some ⟨b4, 0, none⟩), 2, [b4], y1, rfl, Fr.of hst (by kernel_rfl), F12, F13, F14, F16, G7, D9, D10, hB, hZ⟩)
         ·have hm := condF hb5 hm
          rewrite [hb5]
          refine wH_take [13, 14] [14, 13, 12, 11, 10, 9, 8, 7, 6, 5, 4, 3, 2, 1, 0] [(61, .int .i64 (x8)), (60, .int .i64 (y1))] (by kernel_rfl) (qT (qT (qT (qB (qT (qL (qB (qT (qB (qT (qL (qB (qT (qT (qB (qL (qB (qT (qT qZ))))))))))))))))))) (by kernel_rfl) ?_
          refine wH_done (by kernel_rfl) ?_
          refine eX_tail ?_
          refine wS_pure 3 [(64, .bool (decide (y1 < x8))), (63, .bool (decide (y1 < x8))), (62, .bool (decide (y1 < x8)))] (by kernel_rfl) ?_
          refine wS_end (by rfl) ?_
          refine eX_then ?_
          refine cW_prune [(0, .slice A0 (l0).length cap0), (4, .int .i64 (((l0).length : Int))), (5, .slice (some ⟨b1, 0, none⟩) (l3).length (Int.toNat (((l0).length : Int)))), (6, .slice A3 (l2).length cap3), (7, .int .i64 (x3)), (8, .slice A7 (l7).length cap7), (9, .int .i64 (x8)), (10, .int .i64 (x6)), (11, .int .i64 (x9)), (12, .int .i64 (y1)), (64, .bool (decide (y1 < x8)))] (by kernel_rfl) (by kernel_rfl) (fun a2 => ?_)
          refine cW_cond (t := decide (y1 < x8)) (by kernel_rfl) (fun hb6 => ?_) (fun hb6 => ?_)
          ·have hm := condT hb6 hm
           refine cW_seq ?_
           refine cW_region ?_
           refine wS_pure 2 [(66, .int .i64 (x9)), (65, .int .i64 (x6))] (by kernel_rfl) ?_
           refine wS_bs (enc := encI) ([x6, x9] : List (Int)) [.int .i64 (x6), .int .i64 (x9)] (d := 67) (t := 66) (T := 2) (n := 2) (ps := [(0, .int .i64 (x6)), (1, .int .i64 (x9))]) (by kernel_rfl) el66 encI_ok (by rfl) (by omega) (by omega) (by kernel_rfl) (by rfl) ?_
           intro b5 w12 G8 F17 hc9
           have D12 : Dj [b1] [b5] := Dj.of F13.low (low1 G8)
           have D13 : Dj (fp2 ++ fr2) [b5] := Dj.of F14.low (low1 G8)
           have D14 : Dj fp6 [b5] := Dj.of F15.low (low1 G8)
           replace F12 := F12.chg hc9 Dj.nil
           replace F13 := F13.chg hc9 Dj.nil
           replace F14 := F14.chg hc9 Dj.nil
           replace F15 := F15.chg hc9 Dj.nil
           replace hB := hB.inS hc9 inNil
           replace G8 := Nat.le_trans hZ G8
           replace G8 := low1 G8
           replace hZ := Nat.le_trans hZ hc9.size
           refine wS_pure 1 [(8, .slice (some ⟨b5, 0, none⟩) (([x6, x9] : List (Int))).length 2)] (by kernel_rfl) ?_
           refine wS_end (by rfl) ?_
           refine eX_then ?_
           refine cW_region ?_
           refine wS_pure 2 [(9, .int .i64 (y1)), (68, .int .i64 (y1))] (by kernel_rfl) ?_
           refine wS_end (by rfl) ?_
           have hq : (some ((([x6, x9] : List (Int)), y1)) : Option ((List (Int)) × Int)) = some _ := hm
           replace hq := someE hq
           subst hq
           exact eX_J (fun hst => ⟨([x6, x9] : List (Int)), (some ⟨b5, 0, none⟩), 2, [b5], y1, rfl, Fr.of hst (by kernel_rfl), F12, F13, F14, F17, G8, D12, D13, hB, hZ⟩)
          ·have hm := condF hb6 hm
           refine cW_skip ?_
           have hq : (some ((l7, x8)) : Option ((List (Int)) × Int)) = some _ := hm
           replace hq := someE hq
           subst hq
           exact eX_J (fun hst => ⟨l7, A7, cap7, fp6, x8, rfl, Fr.of hst (by kernel_rfl), F12, F13, F14, F15, G6, D7, D8, hB, hZ⟩)
        ·have hm := condF hb4 hm
         rewrite [hb4]
         refine wH_take [10, 11, 12, 13, 14] [14, 13, 12, 11, 10, 9, 8, 7, 6, 5, 4, 3, 2, 1, 0] [(61, undef), (60, undef), (59, undef), (58, undef), (57, undef)] (by kernel_rfl) (qT (qT (qT (qB (qT (qL (qB (qT (qB (qT (qL (qB (qT (qT (qB (qL (qB (qT (qT qZ))))))))))))))))))) (by kernel_rfl) ?_
         refine wH_done (by kernel_rfl) ?_
         refine eX_tail ?_
         refine wS_pure 3 [(64, .bool (false)), (63, undef), (62, undef)] (by kernel_rfl) ?_
         refine wS_end (by rfl) ?_
         refine eX_then ?_
         refine cW_prune [(0, .slice A0 (l0).length cap0), (4, .int .i64 (((l0).length : Int))), (5, .slice (some ⟨b1, 0, none⟩) (l3).length (Int.toNat (((l0).length : Int)))), (6, .slice A3 (l2).length cap3), (7, .int .i64 (x3)), (8, .slice A7 (l7).length cap7), (9, .int .i64 (x8)), (10, .int .i64 (x6)), (11, .int .i64 (x9)), (12, .int .i64 (y1)), (64, .bool (false))] (by kernel_rfl) (by kernel_rfl) (fun a3 => ?_)
         refine cW_cond_f (by kernel_rfl) ?_
         refine cW_skip ?_
         have hq : (some ((l7, x8)) : Option ((List (Int)) × Int)) = some _ := hm
         replace hq := someE hq
         subst hq
         exact eX_J (fun hst => ⟨l7, A7, cap7, fp6, x8, rfl, Fr.of hst (by kernel_rfl), F12, F13, F14, F15, G6, D7, D8, hB, hZ⟩)
       ·rintro a' w13 ⟨l8, A8, cap8, fp7, x10, hJ, hF4, F18, F19, F20, F21, G9, D15, D16, hB, hZ⟩
        subst hJ
        refine Fr.goX hF4 (by kernel_rfl) ?_
        refine eX_block ?_
        refine eX_then ?_
        refine cW_region ?_
        refine wS_pure 3 [(11, .int .i64 (wr (x9 + 1))), (37, .int .i64 (wr (x9 + 1))), (36, .int .i64 (x9))] (by kernel_rfl) ?_
        refine wS_end (by rfl) ?_
        have hq : (some (Ctl.next ((l8, x10, wr (x9 + 1)))) : Option (Ctl ((List (Int)) × Int × Int) ((List (Int)) × Int))) = some _ := hm
        replace hq := someE hq
        subst hq
        exact eX_next hx4 (fun hst => ⟨l8, A8, cap8, fp7, x10, wr (x9 + 1), rfl, Fr.of hst (by kernel_rfl), F18, F19, F20, F21, G9, D15, D16, hB, hZ⟩)
      ·have hm := condF hb3 hm
       refine cW_exit ?_
       refine eX_then_exit ?_
       have hq : (some (Ctl.out ((l7, x8))) : Option (Ctl ((List (Int)) × Int × Int) ((List (Int)) × Int))) = some _ := hm
       replace hq := someE hq
       subst hq
       refine eX_outX hx4 (fun hr4 => ?_)
       replace hr4 := hr4.symm
       subst hr4
       refine eX_block_hit ?_
       exact eX_J (fun hst => ⟨l7, A7, cap7, fp6, x8, rfl, Fr.of hst (by kernel_rfl), F12, F13, F14, F15, G6, D7, D8, hB, hZ⟩)
     ·rintro a' w14 ⟨l6, A6, cap6, fp5, x7, hJ, hF5, F22, F23, F24, F25, G10, D17, D18, hB, hZ⟩
      subst hJ
      refine Fr.goX hF5 (by kernel_rfl) ?_
      refine eX_block ?_
      refine eX_then ?_
      refine cW_region ?_
      refine wS_pure 3 [(10, .int .i64 (wr (x6 + 1))), (30, .int .i64 (wr (x6 + 1))), (29, .int .i64 (x6))] (by kernel_rfl) ?_
      refine wS_end (by rfl) ?_
      have hq : (some (Ctl.next ((l6, x7, wr (x6 + 1)))) : Option (Ctl ((List (Int)) × Int × Int) ((List (Int)) × Int))) = some _ := hm
      replace hq := someE hq
      subst hq
      exact eX_next hx3 (fun hst => ⟨l6, A6, cap6, fp5, x7, wr (x6 + 1), rfl, Fr.of hst (by kernel_rfl), F22, F23, F24, F25, G10, D17, D18, hB, hZ⟩)
    ·have hm := condF hb2 hm
     refine cW_exit ?_
     refine eX_then_exit ?_
     have hq : (some (Ctl.out ((l5, x5))) : Option (Ctl ((List (Int)) × Int × Int) ((List (Int)) × Int))) = some _ := hm
     replace hq := someE hq
     subst hq
     refine eX_outX hx3 (fun hr5 => ?_)
     replace hr5 := hr5.symm
     subst hr5
     refine eX_block_hit ?_
     exact eX_J (fun hst => ⟨l5, A5, cap5, fp4, x5, rfl, Fr.of hst (by kernel_rfl), F8, F9, F10, F11, G5, D5, D6, hB, hZ⟩)
   ·rintro a' w15 ⟨l4, A4, cap4, fp3, x4, hJ, hF6, F26, F27, F28, F29, G11, D19, D20, hB, hZ⟩
    subst hJ
    refine Fr.goX hF6 (by kernel_rfl) ?_
    refine eX_then ?_
    refine cW_seq ?_
    refine cW_region ?_
    refine wS_pure 2 [(70, .slice A4 (l4).length cap4), (69, .slice (some ⟨b1, 0, none⟩) (l3).length (Int.toNat (((l0).length : Int))))] (by kernel_rfl) ?_
    obtain ⟨x15, hx9, hm⟩ := bindE hm
    refine wS_idx (d := 71) (T := 66) (A := A4) (n := (l4).length) (cap := cap4) (kd := .i64) (m := 0) (by kernel_rfl) sl66 ((F29.sl encI_ok).is hx9) ?_
    refine wS_load1 (d := 72) (T := 2) (ad := (elA A4 1 (0) 0)) (v := .int .i64 (x15)) (by kernel_rfl) vt2 (Sl.cell (F29.sl encI_ok) hx9 0 (by rfl)) ?_
    obtain ⟨x16, hx10, hm⟩ := bindE hm
    refine wS_idx (d := 73) (T := 65) (A := (some ⟨b1, 0, none⟩)) (n := (l3).length) (cap := (Int.toNat (((l0).length : Int)))) (kd := .i64) (m := x15) (by kernel_rfl) sl65 ((F27.sl encB_ok).is hx10) ?_
    refine wS_storeEl (x := x16) true (T := 4) (U := 4) (cap := (Int.toNat (((l0).length : Int)))) (j := 0) (A := (some ⟨b1, 0, none⟩)) (v := .bool (true)) (vs := [.bool (true)]) (m := x15) (by kernel_rfl) (by rfl) sz4 (by rfl) encB_ok F27 hx10 (by simp only [List.length_cons, List.length_nil]; omega) (by rfl) ?_
    intro w16 F30 hc10
    replace F26 := F26.chg hc10 (Dj.of L0 G1)
    replace F28 := F28.chg hc10 (D2).symm
    replace F29 := F29.chg hc10 (D19).symm
    replace hB := hB.inS hc10 (inLow G1)
    replace hZ := Nat.le_trans hZ hc10.size
    clear F27
    rewrite [show (l3).length = (l3.set (Int.toNat x15) true).length from (List.length_set ..).symm]
    refine wS_end (by rfl) ?_
    refine eX_then ?_
    refine cW_seq ?_
    refine cW_region ?_
    refine wS_pure 2 [(75, .slice A4 (l4).length cap4), (74, .slice (some ⟨b1, 0, none⟩) (l3.set (Int.toNat x15) true).length (Int.toNat (((l0).length : Int))))] (by kernel_rfl) ?_
    obtain ⟨x17, hx11, hm⟩ := bindE hm
    refine wS_idx (d := 76) (T := 66) (A := A4) (n := (l4).length) (cap := cap4) (kd := .i64) (m := 1) (by kernel_rfl) sl66 ((F29.sl encI_ok).is hx11) ?_
    refine wS_load1 (d := 77) (T := 2) (ad := (elA A4 1 (1) 0)) (v := .int .i64 (x17)) (by kernel_rfl) vt2 (Sl.cell (F29.sl encI_ok) hx11 0 (by rfl)) ?_
    obtain ⟨x18, hx12, hm⟩ := bindE hm
    refine wS_idx (d := 78) (T := 65) (A := (some ⟨b1, 0, none⟩)) (n := (l3.set (Int.toNat x15) true).length) (cap := (Int.toNat (((l0).length : Int)))) (kd := .i64) (m := x17) (by kernel_rfl) sl65 ((F30.sl encB_ok).is hx12) ?_
    refine wS_storeEl (x := x18) true (T := 4) (U := 4) (cap := (Int.toNat (((l0).length : Int)))) (j := 0) (A := (some ⟨b1, 0, none⟩)) (v := .bool (true)) (vs := [.bool (true)]) (m := x17) (by kernel_rfl) (by rfl) sz4 (by rfl) encB_ok F30 hx12 (by simp only [List.length_cons, List.length_nil]; omega) (by rfl) ?_
    intro w17 F31 hc11
    replace F26 := F26.chg hc11 (Dj.of L0 G1)
    replace F28 := F28.chg hc11 (D2).symm
    replace F29 := F29.chg hc11 (D19).symm
    replace hB := hB.inS hc11 (inLow G1)
    replace hZ := Nat.le_trans hZ hc11.size
    clear F30
    rewrite [show (l3.set (Int.toNat x15) true).length = ((l3.set (Int.toNat x15) true).set (Int.toNat x17) true).length from (List.length_set ..).symm]
    refine wS_end (by rfl) ?_
    refine eX_then ?_
    refine cW_seq ?_
    refine cW_region ?_
    refine wS_pure 2 [(80, .slice A4 (l4).length cap4), (79, .slice A3 (l2).length cap3)] (by kernel_rfl) ?_
    refine wS_row1 (k := 1) (enc := encI) (l := l4) (d := 81) (t := 40) (T := 66) (B := A4) (c := cap4) (by kernel_rfl) el40 F29 ?_
    intro b6 w18 G12 F32 hc12
    have D21 : Dj [b1] ([b6] ++ fp3) := Dj.app (Dj.of F31.low (low1 G12)) D19
    have D22 : Dj (fp2 ++ fr2) ([b6] ++ fp3) := Dj.app (Dj.of F28.low (low1 G12)) D20
    replace F26 := F26.chg hc12 Dj.nil
    replace F31 := F31.chg hc12 Dj.nil
    replace F28 := F28.chg hc12 Dj.nil
    replace F29 := F29.chg hc12 Dj.nil
    replace hB := hB.inS hc12 inNil
    replace G12 := Nat.le_trans hZ G12
    replace G12 := lowApp (low1 G12) G11
    replace hZ := Nat.le_trans hZ hc12.size
    replace F29 := (F29.sl encI_ok)
    obtain ⟨_, hk2, hm⟩ := bindE hm
    replace hk2 := apE hk2
    refine wS_appendR (k := 1) (enc := encI) (ll := (l2 : List (List (Int)))) (ll2 := (([l4] : List (List (Int))) : List (List (Int)))) (d := 82) (t := 40) (T := 66) (A := A3) (A2 := (some ⟨b6, 0, none⟩)) (cap := cap3) (cap2 := 1) (by kernel_rfl) el40 F28 F32 (by rfl) D22 hk2 ?_
    intro w19 fp8 A9 cap9 F33 hc13 hp1
    have G13 := lowApp (low_ap (low_inl G3) hZ hp1) (lowApp (low_inr G3) (low_inr G12))
    have D23 : Dj [b1] (fp8 ++ (fr2 ++ fp3)) := Dj.app (Dj.ap (Dj.inl D2) F31.low hp1) (Dj.app (Dj.inr D2) (Dj.inr D21))
    replace F26 := F26.chg hc13 (Dj.inl (Dj.of L0 G3))
    replace F31 := F31.chg hc13 (Dj.inl D2)
    replace hB := hB.inS hc13 (memS_inl (inLow G3))
    replace hZ := Nat.le_trans hZ hc13.size
    refine wS_pure 1 [(6, .slice A9 (l2 ++ (([l4] : List (List (Int))))).length cap9)] (by kernel_rfl) ?_
    refine wS_end (by rfl) ?_
    refine eX_then ?_
    refine cW_region ?_
    refine wS_pure 4 [(7, .int .i64 (wr (x3 + x4))), (85, .int .i64 (wr (x3 + x4))), (84, .int .i64 (x4)), (83, .int .i64 (x3))] (by kernel_rfl) ?_
    refine wS_end (by rfl) ?_
    refine eX_block ?_
    have hq : (some (Ctl.next ((l2 ++ (([l4] : List (List (Int)))), wr (x3 + x4), (l3.set (Int.toNat x15) true).set (Int.toNat x17) true))) : Option (Ctl ((List (List (Int))) × Int × (List (Bool))) ((List (List (Int))) × Int))) = some _ := hm
    replace hq := someE hq
    subst hq
    exact eX_next hx2 (fun hst => ⟨l2 ++ (([l4] : List (List (Int)))), A9, cap9, fp8, (fr2 ++ fp3), wr (x3 + x4), (l3.set (Int.toNat x15) true).set (Int.toNat x17) true, rfl, Fr.of hst (by kernel_rfl), F26, F31, F33, G13, D23, hB, hZ⟩)
  ·have hm := condF hb1 hm
   refine cW_exit ?_
   refine eX_then_exit ?_
   have hq : (some (Ctl.out ((l2, x3))) : Option (Ctl ((List (List (Int))) × Int × (List (Bool))) ((List (List (Int))) × Int))) = some _ := hm
   replace hq := someE hq
   subst hq
   refine eX_outX hx2 (fun hr6 => ?_)
   replace hr6 := hr6.symm
   subst hr6
   refine eX_block_hit ?_
   exact eX_J (fun hst => ⟨l2, A3, cap3, fp2, fr2, x3, rfl, Fr.of hst (by kernel_rfl), F6, G3, hB, hZ⟩)
 ·rintro a' w20 ⟨l1, A1, cap1, fp1, fr1, x2, hJ, hF7, F34, G14, hB, hZ⟩
  subst hJ
  refine Fr.goX hF7 (by kernel_rfl) ?_
  refine eX_then ?_
  refine cW_seq ?_
  refine cW_region ?_
  refine wS_pure 4 [(3, .int .i64 (x2)), (2, .slice A1 (l1).length cap1), (87, .int .i64 (x2)), (86, .slice A1 (l1).length cap1)] (by kernel_rfl) ?_
  refine wS_end (by rfl) ?_
  refine eX_then ?_
  refine cW_ret ?_
  have hq : (some ((l1, x2)) : Option ((List (List (Int))) × (Int))) = some _ := hm
  replace hq := someE hq
  subst hq
  refine eX_ret (vs := [.slice A1 (l1).length cap1, .int .i64 (x2)]) [.tmp 2, .tmp 3] (by rfl) ⟨by (show lkE _ _ _ = _); kernel_rfl, ⟨by (show lkE _ _ _ = _); kernel_rfl, trivial⟩⟩ ?_
  exact ⟨A1, cap1, fp1, fr1, rfl, F34, G14, hB⟩

set_option maxRecDepth 100000 in
/-- spec.l03Less -/
theorem c_spec_l03Less {w0 : World} {l0 : List (Int)} {A0 : Option Addr} {cap0 : Nat} {fp0 : List Nat} {l1 : List (Int)} {A1 : Option Addr} {cap1 : Nat} {fp1 : List Nat} {r : (Bool)} (hm : m_spec_l03Less l0 l1 = some r) (F0 : Sl 1 encI w0 fp0 A0 l0) (F1 : Sl 1 encI w0 fp1 A1 l1) :
  Calls Try.prog 38 #[.slice A0 (l0).length cap0, .slice A1 (l1).length cap1] w0 fun e w' => e = .returned (.bool (r)) ∧ Chg [] w0 w' := by
 have L0 := F0.low
 have L1 := F1.low
 have hB : Chg [] w0 w0 := Chg.refl _ _
 have hZ := Nat.le_refl w0.heap.size
 unfold m_spec_l03Less at hm
 refine enterE (N := 41) Try.func38 (by rfl) Try.ntmps38 (by simp) [(0, .slice A0 (l0).length cap0), (1, .slice A1 (l1).length cap1)] (by rfl) (by kernel_rfl) (fun a => ?_)
 refine cW_seq ?_
 refine cW_region ?_
 refine wS_pure 1 [(4, .bool (false))] (by kernel_rfl) ?_
 refine wS_end (by rfl) ?_
 refine eX_then ?_
 refine cW_seq ?_
 refine cW_seq ?_
 refine cW_region ?_
 refine wS_pure 1 [(5, .int .i64 (0))] (by kernel_rfl) ?_
 refine wS_end (by rfl) ?_
 refine eX_then ?_
 obtain ⟨r1, hr1, hm⟩ := bindE hm
 have hm1 := hm
 refine cW_cut (fun a' w' => Sum.inl (()) = r1 ∧ Fr 41 [(0, .slice A0 (l0).length cap0), (1, .slice A1 (l1).length cap1)] a' ∧ Sl 1 encI w' fp0 A0 l0 ∧ Sl 1 encI w' fp1 A1 l1 ∧ Chg [] w0 w' ∧ w0.heap.size ≤ w'.heap.size) ?_ ?_
 ·refine cW_block ?_
  refine cW_loop _ (fun (s1 : Int) a' w' => ∃ x1 : Int, x1 = s1 ∧ Fr 41 [(0, .slice A0 (l0).length cap0), (1, .slice A1 (l1).length cap1), (5, .int .i64 (x1))] a' ∧ Sl 1 encI w' fp0 A0 l0 ∧ Sl 1 encI w' fp1 A1 l1 ∧ Chg [] w0 w' ∧ w0.heap.size ≤ w'.heap.size) hr1 (fun hst => ⟨0, rfl, Fr.of hst (by kernel_rfl), F0, F1, hB, hZ⟩) ?_
  rintro _ c1 a' w1 ⟨x1, rfl, hF1, F2, F3, hB, hZ⟩ hx1
  refine Fr.goOn hF1 (by kernel_rfl) ?_
  have hm := hx1
  unfold m_spec_l03Less_s1 at hm
  refine cW_seq ?_
  refine cW_seq ?_
  refine cW_region ?_
  refine wS_pure 5 [(10, .bool (decide (x1 < (((l0).length : Int))))), (9, .bool (decide (x1 < (((l0).length : Int))))), (8, .int .i64 (((l0).length : Int))), (7, .slice A0 (l0).length cap0), (6, .int .i64 (x1))] (by kernel_rfl) ?_
  refine wS_bool (decide (x1 < (((l0).length : Int)))) (fun hb1 => ?_) (fun hb1 => ?_)
  ·have hm := condT hb1 hm
   rewrite [hb1]
   refine wS_pure 5 [(15, .bool (decide (x1 < (((l1).length : Int))))), (14, .bool (decide (x1 < (((l1).length : Int))))), (13, .int .i64 (((l1).length : Int))), (12, .slice A1 (l1).length cap1), (11, .int .i64 (x1))] (by kernel_rfl) ?_
   refine wS_end (by rfl) ?_
   refine eX_then ?_
   refine cW_cond (t := decide (x1 < (((l1).length : Int)))) (by kernel_rfl) (fun hb2 => ?_) (fun hb2 => ?_)
   ·have hm := condT hb2 hm
    refine cW_skip ?_
    refine eX_then ?_
    refine cW_seq ?_
    refine cW_block ?_
    refine cW_seq ?_
    refine cW_drawnTail [] 8 (by kernel_rfl) (by kernel_rfl) (fun w2 hc1 => ?_)
    replace F2 := F2.chg hc1 Dj.nil
    replace F3 := F3.chg hc1 Dj.nil
    replace hB := hB.inS hc1 inNil
    replace hZ := Nat.le_trans hZ hc1.size
    have hS := Chg.refl [] w2
    have Z1 := F2
    have Z2 := F3
    refine wH_take [0, 1] [1, 0] [(19, .int .i64 (x1)), (18, .slice A0 (l0).length cap0)] (by kernel_rfl) (qT (qT (qB (qT (qL (qB (qT (qT qZ)))))))) (by kernel_rfl) ?_
    obtain ⟨x2, hx2, hm⟩ := bindE hm
    refine wH_idx (i := 2) (d := 20) (T := 66) (A := A0) (n := (l0).length) (cap := cap0) (kd := .i64) (m := x1) (by kernel_rfl) (qT (qT (qB (qT (qL (qB (qT (qT qZ)))))))) (by kernel_rfl) (by kernel_rfl) sl66 (F2.is hx2) ?_
    refine wH_load1 (i := 3) (d := 21) (T := 2) (ad := (elA A0 1 (x1) 0)) (v := .int .i64 (x2)) (by kernel_rfl) (qT (qT (qB (qT (qL (qB (qT (qT qZ)))))))) (by kernel_rfl) (by kernel_rfl) vt2 (fun W hW => Sl.cell (Z1.chg hW Dj.nil) hx2 0 (by rfl)) ?_
    refine wH_take [4, 5] [5, 4, 3, 2, 1, 0] [(23, .int .i64 (x1)), (22, .slice A1 (l1).length cap1)] (by kernel_rfl) (qT (qT (qB (qT (qL (qB (qT (qT qZ)))))))) (by kernel_rfl) ?_
    obtain ⟨x3, hx3, hm⟩ := bindE hm
    refine wH_idx (i := 6) (d := 24) (T := 66) (A := A1) (n := (l1).length) (cap := cap1) (kd := .i64) (m := x1) (by kernel_rfl) (qT (qT (qB (qT (qL (qB (qT (qT qZ)))))))) (by kernel_rfl) (by kernel_rfl) sl66 (F3.is hx3) ?_
    refine wH_load1 (i := 7) (d := 25) (T := 2) (ad := (elA A1 1 (x1) 0)) (v := .int .i64 (x3)) (by kernel_rfl) (qT (qT (qB (qT (qL (qB (qT (qT qZ)))))))) (by kernel_rfl) (by kernel_rfl) vt2 (fun W hW => Sl.cell (Z2.chg hW Dj.nil) hx3 0 (by rfl)) ?_
    refine wH_done (by kernel_rfl) ?_
    refine eX_tail ?_
    refine wS_pure 1 [(26, .bool (x2 != x3))] (by kernel_rfl) ?_
    refine wS_end (by rfl) ?_
    refine eX_then ?_
    refine cW_cond (t := x2 != x3) (by kernel_rfl) (fun hb3 => ?_) (fun hb3 => ?_)
    ·have hm := condT hb3 hm
     refine cW_seq ?_
     refine cW_drawnTail [] 8 (by kernel_rfl) (by kernel_rfl) (fun w3 hc2 => ?_)
     replace F2 := F2.chg hc2 Dj.nil
     replace F3 := F3.chg hc2 Dj.nil
     replace hB := hB.inS hc2 inNil
     replace hZ := Nat.le_trans hZ hc2.size
     have hS := Chg.refl [] w3
     have Z3 := F2
     have Z4 := F3
     refine wH_take [0, 1] [1, 0] [(28, .int .i64 (x1)), (27, .slice A0 (l0).length cap0)] (by kernel_rfl) (qT (qT (qB (qT (qL (qB (qT (qT qZ)))))))) (by kernel_rfl) ?_
     obtain ⟨x4, hx4, hm⟩ := bindE hm
     refine wH_idx (i := 2) (d := 29) (T := 66) (A := A0) (n := (l0).length) (cap := cap0) (kd := .i64) (m := x1) (by kernel_rfl) (qT (qT (qB (qT (qL (qB (qT (qT qZ)))))))) (by kernel_rfl) (by kernel_rfl) sl66 (F2.is hx4) ?_
     refine wH_load1 (i := 3) (d := 30) (T := 2) (ad := (elA A0 1 (x1) 0)) (v := .int .i64 (x4)) (by kernel_rfl) (qT (qT (qB (qT (qL (qB (qT (qT qZ)))))))) (by kernel_rfl) (by kernel_rfl) vt2 (fun W hW => Sl.cell (Z3.chg hW Dj.nil) hx4 0 (by rfl)) ?_
     refine wH_take [4, 5] [5, 4, 3, 2, 1, 0] [(32, .int .i64 (x1)), (31, .slice A1 (l1).length cap1)] (by kernel_rfl) (qT (qT (qB (qT (qL (qB (qT (qT qZ)))))))) (by kernel_rfl) ?_
     obtain ⟨x5, hx5, hm⟩ := bindE hm
     refine wH_idx (i := 6) (d := 33) (T := 66) (A := A1) (n := (l1).length) (cap := cap1) (kd := .i64) (m := x1) (by kernel_rfl) (qT (qT (qB (qT (qL (qB (qT (qT qZ)))))))) (by kernel_rfl) (by kernel_rfl) sl66 (F3.is hx5) ?_
     refine wH_load1 (i := 7) (d := 34) (T := 2) (ad := (elA A1 1 (x1) 0)) (v := .int .i64 (x5)) (by kernel_rfl) (qT (qT (qB (qT (qL (qB (qT (qT qZ)))))))) (by kernel_rfl) (by kernel_rfl) vt2 (fun W hW => Sl.cell (Z4.chg hW Dj.nil) hx5 0 (by rfl)) ?_
     refine wH_done (by kernel_rfl) ?_
     refine eX_tail ?_
     refine wS_pure 2 [(4, .bool (decide (x4 < x5))), (35, .bool (decide (x4 < x5)))] (by kernel_rfl) ?_
     refine wS_end (by rfl) ?_
     refine eX_then ?_
     refine cW_prune [(4, .bool (decide (x4 < x5)))] (by kernel_rfl) (by kernel_rfl) (fun a1 => ?_)
     refine cW_ret ?_
     refine eX_block_ret ?_
     refine eX_then_ret ?_
     have hq : (some (Ctl.out (Sum.inr (decide (x4 < x5)))) : Option (Ctl (Int) (Sum (Unit) ((Bool))))) = some _ := hm
     replace hq := someE hq
     subst hq
     refine eX_outR hx1 (fun hr => ?_)
     subst hr
     refine eX_block_ret ?_
     refine eX_then_ret ?_
     refine eX_then_ret ?_
     have hq : (some (decide (x4 < x5)) : Option ((Bool))) = some _ := hm1
     replace hq := someE hq
     subst hq
     refine eX_ret (vs := [.bool (decide (x4 < x5))]) [.tmp 4] (by rfl) ⟨by (show lkE _ _ _ = _); kernel_rfl, trivial⟩ ?_
     exact ⟨rfl, hB⟩
    ·have hm := condF hb3 hm
     refine cW_skip ?_
     refine eX_block ?_
     refine eX_then ?_
     refine cW_region ?_
     refine wS_pure 3 [(5, .int .i64 (wr (x1 + 1))), (17, .int .i64 (wr (x1 + 1))), (16, .int .i64 (x1))] (by kernel_rfl) ?_
     refine wS_end (by rfl) ?_
     have hq : (some (Ctl.next (wr (x1 + 1))) : Option (Ctl (Int) (Sum (Unit) ((Bool))))) = some _ := hm
     replace hq := someE hq
     subst hq
     exact eX_next hx1 (fun hst => ⟨wr (x1 + 1), rfl, Fr.of hst (by kernel_rfl), F2, F3, hB, hZ⟩)
   ·have hm := condF hb2 hm
    refine cW_exit ?_
    refine eX_then_exit ?_
    have hq : (some (Ctl.out (Sum.inl (()))) : Option (Ctl (Int) (Sum (Unit) ((Bool))))) = some _ := hm
    replace hq := someE hq
    subst hq
    refine eX_outX hx1 (fun hr2 => ?_)
    replace hr2 := hr2.symm
    subst hr2
    refine eX_block_hit ?_
    exact eX_J (fun hst => ⟨rfl, Fr.of hst (by kernel_rfl), F2, F3, hB, hZ⟩)
  ·have hm := condF hb1 hm
   rewrite [hb1]
   refine wS_pure 5 [(15, .bool (false)), (14, undef), (13, undef), (12, undef), (11, undef)] (by kernel_rfl) ?_
   refine wS_end (by rfl) ?_
   refine eX_then ?_
   refine cW_cond_f (by kernel_rfl) ?_
   refine cW_exit ?_
   refine eX_then_exit ?_
   have hq : (some (Ctl.out (Sum.inl (()))) : Option (Ctl (Int) (Sum (Unit) ((Bool))))) = some _ := hm
   replace hq := someE hq
   subst hq
   refine eX_outX hx1 (fun hr3 => ?_)
   replace hr3 := hr3.symm
   subst hr3
   refine eX_block_hit ?_
   exact eX_J (fun hst => ⟨rfl, Fr.of hst (by kernel_rfl), F2, F3, hB, hZ⟩)
 ·rintro a' w4 ⟨hJ, hF2, F4, F5, hB, hZ⟩
  subst hJ
  refine Fr.goX hF2 (by kernel_rfl) ?_
  refine eX_then ?_
  refine cW_seq ?_
  refine cW_region ?_
  refine wS_pure 6 [(4, .bool (decide ((((l0).length : Int)) < (((l1).length : Int))))), (40, .bool (decide ((((l0).length : Int)) < (((l1).length : Int))))), (39, .int .i64 (((l1).length : Int))), (38, .slice A1 (l1).length cap1), (37, .int .i64 (((l0).length : Int))), (36, .slice A0 (l0).length cap0)] (by kernel_rfl) ?_
  refine wS_end (by rfl) ?_
  refine eX_then ?_
  refine cW_ret ?_
  have hq : (some (decide ((((l0).length : Int)) < (((l1).length : Int)))) : Option ((Bool))) = some _ := hm
  replace hq := someE hq
  subst hq
  refine eX_ret (vs := [.bool (decide ((((l0).length : Int)) < (((l1).length : Int))))]) [.tmp 4] (by rfl) ⟨by (show lkE _ _ _ = _); kernel_rfl, trivial⟩ ?_
  exact ⟨rfl, hB⟩

set_option maxRecDepth 100000 in
/-- spec.l05Pairs -/
theorem c_spec_l05Pairs_ids {w0 : World} {ra : Nat → Option Addr} {rw : Nat → List Int} {rc : Nat → Nat} {fph : List Nat} {l0 : List (Nat)} {A0 : Option Addr} {cap0 : Nat} {fp0 : List Nat} {r : (List (Nat))} (hm : m_spec_l05Pairs_ids rw l0 = some r) (FH : HRows w0 fph ra rw) (F0 : Sl 1 (encN ra rw rc) w0 fp0 A0 l0) :
  Calls Try.prog 20 #[.slice A0 (l0).length cap0] w0 fun e w' => ∃ A100 cap100 fp100, e = .returned (.slice A100 (r).length cap100) ∧ Ow 1 (encN ra rw rc) 66 w' fp100 A100 cap100 r ∧ (∀ x ∈ fp100, w0.heap.size ≤ x) ∧ Chg [] w0 w' := by
 have Lh := FH.low
 have L0 := F0.low
 have hB : Chg [] w0 w0 := Chg.refl _ _
 have hZ := Nat.le_refl w0.heap.size
 unfold m_spec_l05Pairs_ids at hm
 refine enterE (N := 48) Try.func20 (by rfl) Try.ntmps20 (by simp) [(0, .slice A0 (l0).length cap0)] (by rfl) (by kernel_rfl) (fun a => ?_)
 refine cW_seq ?_
 refine cW_region ?_
 refine wS_pure 1 [(2, .slice none 0 0)] (by kernel_rfl) ?_
 refine wS_end (by rfl) ?_
 refine eX_then ?_
 refine cW_seq ?_
 refine cW_region ?_
 refine wS_bs0 (α := Nat) (enc := (encN ra rw rc)) (d := 7) (t := 40) (T := 66) (by kernel_rfl) el40 ?_
 intro b1 w1 G1 F1 hc1
 replace FH := FH.chg hc1 Dj.nil
 replace F0 := F0.chg hc1 Dj.nil
 replace hB := hB.inS hc1 inNil
 replace G1 := Nat.le_trans hZ G1
 replace G1 := low1 G1
 replace hZ := Nat.le_trans hZ hc1.size
 refine wS_pure 1 [(3, .slice (some ⟨b1, 0, none⟩) (([] : List (Nat))).length 0)] (by kernel_rfl) ?_
 refine wS_end (by rfl) ?_
 refine eX_then ?_
 refine cW_seq ?_
 refine cW_seq ?_
 refine cW_region ?_
 refine wS_pure 1 [(4, .int .i64 (0))] (by kernel_rfl) ?_
 refine wS_end (by rfl) ?_
 refine eX_then ?_
 obtain ⟨r1, hr1, hm⟩ := bindE hm
 have hm1 := hm
 refine cW_cut (fun a' w' => ∃ l1 : List (Nat), ∃ A1 : Option Addr, ∃ cap1 : Nat, ∃ fp1 : List Nat, l1 = r1 ∧ Fr 48 [(3, .slice A1 (l1).length cap1)] a' ∧ HRows w' fph ra rw ∧ Ow 1 (encN ra rw rc) 66 w' fp1 A1 cap1 l1 ∧ (∀ x ∈ fp1, w0.heap.size ≤ x) ∧ Chg [] w0 w' ∧ w0.heap.size ≤ w'.heap.size) ?_ ?_
 ·refine cW_block ?_
  refine cW_loop _ (fun (s1 : (List (Nat)) × Int) a' w' => ∃ l3 : List (Nat), ∃ A3 : Option Addr, ∃ cap3 : Nat, ∃ fp2 : List Nat, ∃ x1 : Int, (l3, x1) = s1 ∧ Fr 48 [(0, .slice A0 (l0).length cap0), (3, .slice A3 (l3).length cap3), (4, .int .i64 (x1))] a' ∧ HRows w' fph ra rw ∧ Sl 1 (encN ra rw rc) w' fp0 A0 l0 ∧ Ow 1 (encN ra rw rc) 66 w' fp2 A3 cap3 l3 ∧ (∀ x ∈ fp2, w0.heap.size ≤ x) ∧ Chg [] w0 w' ∧ w0.heap.size ≤ w'.heap.size) hr1 (fun hst => ⟨([] : List (Nat)), (some ⟨b1, 0, none⟩), 0, [b1], 0, rfl, Fr.of hst (by kernel_rfl), FH, F0, F1, G1, hB, hZ⟩) ?_
  rintro _ c1 a' w2 ⟨l3, A3, cap3, fp2, x1, rfl, hF1, F2, F3, F4, G2, hB, hZ⟩ hx1
  refine Fr.goOn hF1 (by kernel_rfl) ?_
  have hm := hx1
  unfold m_spec_l05Pairs_ids_s3 at hm
  refine cW_seq ?_
  refine cW_seq ?_
  refine cW_region ?_
  refine wS_pure 4 [(11, .bool (decide (x1 < (((l0).length : Int))))), (10, .int .i64 (((l0).length : Int))), (9, .slice A0 (l0).length cap0), (8, .int .i64 (x1))] (by kernel_rfl) ?_
  refine wS_end (by rfl) ?_
  refine eX_then ?_
  refine cW_cond (t := decide (x1 < (((l0).length : Int)))) (by kernel_rfl) (fun hb1 => ?_) (fun hb1 => ?_)
  ·have hm := condT hb1 hm
   refine cW_skip ?_
   refine eX_then ?_
   refine cW_seq ?_
   refine cW_block ?_
   refine cW_seq ?_
   refine cW_region ?_
   refine wS_pure 1 [(5, .int .i64 (0))] (by kernel_rfl) ?_
   refine wS_end (by rfl) ?_
   refine eX_then ?_
   refine cW_seq ?_
   obtain ⟨r2, hr2, hm⟩ := bindE hm
   have hm2 := hm
   refine cW_cut (fun a' w' => ∃ x2 : Int, x2 = r2 ∧ Fr 48 [(0, .slice A0 (l0).length cap0), (3, .slice A3 (l3).length cap3), (4, .int .i64 (x1)), (5, .int .i64 (x2))] a' ∧ HRows w' fph ra rw ∧ Sl 1 (encN ra rw rc) w' fp0 A0 l0 ∧ Ow 1 (encN ra rw rc) 66 w' fp2 A3 cap3 l3 ∧ Chg [] w0 w' ∧ w0.heap.size ≤ w'.heap.size) ?_ ?_
   ·refine cW_block ?_
    refine cW_loop _ (fun (s2 : Int) a' w' => ∃ x3 : Int, x3 = s2 ∧ Fr 48 [(0, .slice A0 (l0).length cap0), (3, .slice A3 (l3).length cap3), (4, .int .i64 (x1)), (5, .int .i64 (x3))] a' ∧ HRows w' fph ra rw ∧ Sl 1 (encN ra rw rc) w' fp0 A0 l0 ∧ Ow 1 (encN ra rw rc) 66 w' fp2 A3 cap3 l3 ∧ Chg [] w0 w' ∧ w0.heap.size ≤ w'.heap.size) hr2 (fun hst => ⟨0, rfl, Fr.of hst (by kernel_rfl), F2, F3, F4, hB, hZ⟩) ?_
    rintro _ c2 a' w3 ⟨x3, rfl, hF2, F5, F6, F7, hB, hZ⟩ hx2
    refine Fr.goOn hF2 (by kernel_rfl) ?_
    have hm := hx2
    unfold m_spec_l05Pairs_ids_s4 at hm
    refine cW_seq ?_
    refine cW_seq ?_
    refine cW_drawnTail [] 13 (by kernel_rfl) (by kernel_rfl) (fun w4 hc2 => ?_)
    replace F5 := F5.chg hc2 Dj.nil
    replace F6 := F6.chg hc2 Dj.nil
    replace F7 := F7.chg hc2 Dj.nil
    replace hB := hB.inS hc2 inNil
    replace hZ := Nat.le_trans hZ hc2.size
    have hS := Chg.refl [] w4
    have Z1 := F5
    have Z2 := F6
    have Z3 := F7
    refine wH_take [0, 1, 2, 3, 4] [4, 3, 2, 1, 0] [(18, .bool (decide (x3 < (((l3).length : Int))))), (17, .bool (decide (x3 < (((l3).length : Int))))), (16, .int .i64 (((l3).length : Int))), (15, .slice A3 (l3).length cap3), (14, .int .i64 (x3))] (by kernel_rfl) (qT (qT (qT (qL (qB (qT (qT (qB (qT (qL (qB (qT (qT qZ))))))))))))) (by kernel_rfl) ?_
    refine wH_bool (decide (x3 < (((l3).length : Int)))) (fun hb2 => ?_) (fun hb2 => ?_)
    ·have hm := condT hb2 hm
     rewrite [hb2]
     refine wH_take [5, 6] [6, 5, 4, 3, 2, 1, 0] [(20, .int .i64 (x3)), (19, .slice A3 (l3).length cap3)] (by kernel_rfl) (qT (qT (qT (qL (qB (qT (qT (qB (qT (qL (qB (qT (qT qZ))))))))))))) (by kernel_rfl) ?_
     obtain ⟨x4, hx3, hm⟩ := bindE hm
     refine wH_idx (i := 7) (d := 21) (T := 40) (A := A3) (n := (l3).length) (cap := cap3) (kd := .i64) (m := x3) (by kernel_rfl) (qT (qT (qT (qL (qB (qT (qT (qB (qT (qL (qB (qT (qT qZ))))))))))))) (by kernel_rfl) (by kernel_rfl) sl40 ((F7.sl encN_ok).is hx3) ?_
     refine wH_load1 (i := 8) (d := 22) (T := 66) (ad := (elA A3 1 (x3) 0)) (v := .slice (ra x4) (rw x4).length (rc x4)) (by kernel_rfl) (qT (qT (qT (qL (qB (qT (qT (qB (qT (qL (qB (qT (qT qZ))))))))))))) (by kernel_rfl) (by kernel_rfl) vt66 (fun W hW => Sl.cell ((Z3.chg hW Dj.nil).sl encN_ok) hx3 0 (by rfl)) ?_
     refine wH_take [9, 10] [10, 9, 8, 7, 6, 5, 4, 3, 2, 1, 0] [(24, .int .i64 (x1)), (23, .slice A0 (l0).length cap0)] (by kernel_rfl) (qT (qT (qT (qL (qB (qT (qT (qB (qT (qL (qB (qT (qT qZ))))))))))))) (by kernel_rfl) ?_
     obtain ⟨x5, hx4, hm⟩ := bindE hm
     refine wH_idx (i := 11) (d := 25) (T := 40) (A := A0) (n := (l0).length) (cap := cap0) (kd := .i64) (m := x1) (by kernel_rfl) (qT (qT (qT (qL (qB (qT (qT (qB (qT (qL (qB (qT (qT qZ))))))))))))) (by kernel_rfl) (by kernel_rfl) sl40 (F6.is hx4) ?_
     refine wH_load1 (i := 12) (d := 26) (T := 66) (ad := (elA A0 1 (x1) 0)) (v := .slice (ra x5) (rw x5).length (rc x5)) (by kernel_rfl) (qT (qT (qT (qL (qB (qT (qT (qB (qT (qL (qB (qT (qT qZ))))))))))))) (by kernel_rfl) (by kernel_rfl) vt66 (fun W hW => Sl.cell (Z2.chg hW Dj.nil) hx4 0 (by rfl)) ?_
     refine wH_done (by kernel_rfl) ?_
     refine eX_tail ?_
     obtain ⟨y1, hy1, hm⟩ := bindE hm
     refine wS_calls (d := 27) (f := 38) (vs := [.slice (ra x4) (rw x4).length (rc x4), .slice (ra x5) (rw x5).length (rc x5)]) (by kernel_rfl) ent38 (c_spec_l03Less hy1 (F5.row x4) (F5.row x5)) ?_
     rintro _ w5 ⟨rfl, hc3⟩
     replace F5 := F5.chg hc3 Dj.nil
     replace F6 := F6.chg hc3 Dj.nil
     replace F7 := F7.chg hc3 Dj.nil
     replace hB := hB.inS hc3 inNil
     replace hZ := Nat.le_trans hZ hc3.size
     refine ⟨.bool (y1), rfl, ?_⟩
     refine wS_pure 1 [(28, .bool (y1))] (by kernel_rfl) ?_
     refine wS_end (by rfl) ?_
     refine eX_then ?_
     refine cW_cond (t := y1) (by kernel_rfl) (fun hb3 => ?_) (fun hb3 => ?_)
     ·have hm := condT hb3 hm
      refine cW_skip ?_
      refine eX_then ?_
      refine cW_block ?_
      refine cW_region ?_
      refine wS_pure 3 [(5, .int .i64 (wr (x3 + 1))), (30, .int .i64 (wr (x3 + 1))), (29, .int .i64 (x3))] (by kernel_rfl) ?_
      refine wS_end (by rfl) ?_
      refine eX_block ?_
      have hq : (some (Ctl.next (wr (x3 + 1))) : Option (Ctl (Int) (Int))) = some _ := hm
      replace hq := someE hq
      subst hq
      exact eX_next hx2 (fun hst => ⟨wr (x3 + 1), rfl, Fr.of hst (by kernel_rfl), F5, F6, F7, hB, hZ⟩)
     ·have hm := condF hb3 hm
      refine cW_exit ?_
      refine eX_then_exit ?_
      have hq : (some (Ctl.out x3) : Option (Ctl (Int) (Int))) = some _ := hm
      replace hq := someE hq
      subst hq
      refine eX_outX hx2 (fun hr3 => ?_)
      replace hr3 := hr3.symm
      subst hr3
      refine eX_block_hit ?_
      exact eX_J (fun hst => ⟨x3, rfl, Fr.of hst (by kernel_rfl), F5, F6, F7, hB, hZ⟩)
    ·have hm := condF hb2 hm
     rewrite [hb2]
     refine wH_take [5, 6, 7, 8, 9, 10, 11, 12] [12, 11, 10, 9, 8, 7, 6, 5, 4, 3, 2, 1, 0] [(26, undef), (25, undef), (24, undef), (23, undef), (22, undef), (21, undef), (20, undef), (19, undef)] (by kernel_rfl) (qT (qT (qT (qL (qB (qT (qT (qB (qT (qL (qB (qT (qT qZ))))))))))))) (by kernel_rfl) ?_
     refine wH_done (by kernel_rfl) ?_
     refine eX_tail ?_
     refine wS_pure 2 [(28, .bool (false)), (27, undef)] (by kernel_rfl) ?_
     refine wS_end (by rfl) ?_
     refine eX_then ?_
     refine cW_cond_f (by kernel_rfl) ?_
     refine cW_exit ?_
     refine eX_then_exit ?_
     have hq : (some (Ctl.out x3) : Option (Ctl (Int) (Int))) = some _ := hm
     replace hq := someE hq
     subst hq
     refine eX_outX hx2 (fun hr4 => ?_)
     replace hr4 := hr4.symm
     subst hr4
     refine eX_block_hit ?_
     exact eX_J (fun hst => ⟨x3, rfl, Fr.of hst (by kernel_rfl), F5, F6, F7, hB, hZ⟩)
   ·rintro a' w6 ⟨x2, hJ, hF3, F8, F9, F10, hB, hZ⟩
    subst hJ
    refine Fr.goX hF3 (by kernel_rfl) ?_
    refine eX_then ?_
    refine cW_seq ?_
    refine cW_region ?_
    refine wS_bs0 (α := Nat) (enc := (encN ra rw rc)) (d := 31) (t := 40) (T := 66) (by kernel_rfl) el40 ?_
    intro b2 w7 G3 F11 hc4
    have D1 : Dj fp2 [b2] := Dj.of F10.low (low1 G3)
    replace F8 := F8.chg hc4 Dj.nil
    replace F9 := F9.chg hc4 Dj.nil
    replace F10 := F10.chg hc4 Dj.nil
    replace hB := hB.inS hc4 inNil
    replace G3 := Nat.le_trans hZ G3
    replace G3 := low1 G3
    replace hZ := Nat.le_trans hZ hc4.size
    refine wS_pure 2 [(33, .int .i64 (x2)), (32, .slice A3 (l3).length cap3)] (by kernel_rfl) ?_
    obtain ⟨y2, hy2, hm⟩ := bindE hm
    refine wS_cutA (enc := (encN ra rw rc)) (l := l3) (d := 34) (T := 40) (A := A3) (cap := cap3) (vlo := some (.int .i64 (x2))) (vhi := none) (lo := x2) (hi := ((l3).length : Int)) (n := 0) (by kernel_rfl) sl40 (Or.inl rfl) (Or.inr ⟨rfl, rfl⟩) (F10.sl encN_ok) F10.cap_le hy2 ?_
    intro A4 cap4 hA1 F12 hcap1
    obtain rfl := slci_slc hy2
    have hlv1 := Eq.refl (l3).length
    have hcz1 := F10.cap_le
    obtain ⟨_, hk1, hm⟩ := bindE hm
    replace hk1 := apE hk1
    refine wS_appendAny (enc := (encN ra rw rc)) (l := (([] : List (Nat)) : List (Nat))) (l2 := (slc l3 x2 (((l3).length : Int)) : List (Nat))) (d := 35) (t := 40) (T := 66) (A := (some ⟨b2, 0, none⟩)) (A2 := A4) (cap := 0) (cap2 := cap4) (by kernel_rfl) el40 encN_ok F11 F12 hk1 ?_
    intro w8 fp3 A5 cap5 F13 hc5 hp1
    have G4 := low_ap G3 hZ hp1
    have D2 : Dj fp2 fp3 := Dj.ap D1 F10.low hp1
    have D3 : Dj fp2 fp3 := Dj.ap D1 F12.low hp1
    replace F8 := F8.chg hc5 (Dj.of Lh G3)
    replace F9 := F9.chg hc5 (Dj.of L0 G3)
    replace F10 := F10.chg hc5 D1
    replace F12 := F12.chg hc5 D1
    replace hB := hB.inS hc5 (inLow G3)
    replace hZ := Nat.le_trans hZ hc5.size
    refine wS_pure 1 [(6, .slice A5 ((([] : List (Nat))) ++ (slc l3 x2 (((l3).length : Int)))).length cap5)] (by kernel_rfl) ?_
    refine wS_end (by rfl) ?_
    refine eX_then ?_
    refine cW_drawnTail fp2 10 (by kernel_rfl) (by kernel_rfl) (fun w9 hc6 => ?_)
    replace F8 := F8.chg hc6 Dj.nil
    replace F9 := F9.chg hc6 Dj.nil
    replace F10 := F10.chg hc6 Dj.nil
    replace F12 := F12.chg hc6 Dj.nil
    replace F13 := F13.chg hc6 Dj.nil
    replace hB := hB.inS hc6 inNil
    replace hZ := Nat.le_trans hZ hc6.size
    have hS := Chg.refl fp2 w9
    have Z4 := F8
    have Z5 := F9
    have Z6 := F10
    have Z7 := F12
    have Z8 := F13
    refine wH_take [0, 1] [1, 0] [(37, .int .i64 (x2)), (36, .slice A3 (l3).length cap3)] (by kernel_rfl) (qT (qB (qT (qL (qB (qT (qT qZ))))))) (by kernel_rfl) ?_
    obtain ⟨y3, hy3, hm⟩ := bindE hm
    refine wH_prefix (k := 1) (enc := (encN ra rw rc)) (l := l3) (i := 2) (d := 38) (T := 40) (A := A3) (cap := cap3) (hi := x2) (by kernel_rfl) (qT (qB (qT (qL (qB (qT (qT qZ))))))) (by kernel_rfl) (by kernel_rfl) sl40 encN_ok F10.cap_le hy3 ?_
    intro hpe hpf1
    subst hpe
    have F14 := hpf1 _ _ _ F10
    have Fz1 := hpf1 _ _ _ Z6
    refine wH_take [3, 4] [4, 3, 2, 1, 0] [(40, .int .i64 (x1)), (39, .slice A0 (l0).length cap0)] (by kernel_rfl) (qT (qB (qT (qL (qB (qT (qT qZ))))))) (by kernel_rfl) ?_
    obtain ⟨x6, hx5, hm⟩ := bindE hm
    refine wH_idx (i := 5) (d := 41) (T := 40) (A := A0) (n := (l0).length) (cap := cap0) (kd := .i64) (m := x1) (by kernel_rfl) (qT (qB (qT (qL (qB (qT (qT qZ))))))) (by kernel_rfl) (by kernel_rfl) sl40 (F9.is hx5) ?_
    refine wH_load1 (i := 6) (d := 42) (T := 66) (ad := (elA A0 1 (x1) 0)) (v := .slice (ra x6) (rw x6).length (rc x6)) (by kernel_rfl) (qT (qB (qT (qL (qB (qT (qT qZ))))))) (by kernel_rfl) (by kernel_rfl) vt66 (fun W hW => Sl.cell (Z5.chg hW (Dj.of L0 G2)) hx5 0 (by rfl)) ?_
    refine wH_take [9] [9, 6, 5, 4, 3, 2, 1, 0] [(45, .slice A5 ((([] : List (Nat))) ++ (slc l3 x2 (((l3).length : Int)))).length cap5)] (by kernel_rfl) (qT (qB (qT (qL (qB (qT (qT qZ))))))) (by kernel_rfl) ?_
    refine wH_all [7] (by rfl) (by kernel_rfl) (by simp) ⟨⟨by kernel_rfl, ?_⟩, trivial⟩
    refine wS_bs (enc := (encN ra rw rc)) ([x6] : List (Nat)) [.slice (ra x6) (rw x6).length (rc x6)] (d := 43) (t := 40) (T := 66) (n := 1) (ps := [(0, .slice (ra x6) (rw x6).length (rc x6))]) (by kernel_rfl) el40 encN_ok (by rfl) (by omega) (by omega) (by kernel_rfl) (by rfl) ?_
    intro b3 w10 G5 F15 hc7
    have D4 : Dj fp2 [b3] := Dj.of F14.low (low1 G5)
    have D5 : Dj fp3 [b3] := Dj.of F13.low (low1 G5)
    replace F8 := F8.chg hc7 Dj.nil
    replace F9 := F9.chg hc7 Dj.nil
    replace F14 := F14.chg hc7 Dj.nil
    replace F13 := F13.chg hc7 Dj.nil
    replace hB := hB.inS hc7 inNil
    have hSz := hS
    replace hS := hS.inS hc7 inNil
    have Gz1 := low1 (Nat.le_trans hSz.size G5)
    replace G5 := Nat.le_trans hZ G5
    replace G5 := low1 G5
    replace hZ := Nat.le_trans hZ hc7.size
    refine wS_end (by kernel_rfl) ?_
    refine eX_KH hS ?_
    refine wH_all [8] (by rfl) (by kernel_rfl) (by simp) ⟨⟨by kernel_rfl, ?_⟩, trivial⟩
    obtain ⟨_, hk2, hm⟩ := bindE hm
    replace hk2 := apE hk2
    refine wS_append (enc := (encN ra rw rc)) (l := (l3.take (Int.toNat x2) : List (Nat))) (l2 := (([x6] : List (Nat)) : List (Nat))) (d := 44) (t := 40) (T := 66) (A := A3) (A2 := (some ⟨b3, 0, none⟩)) (cap := cap3) (cap2 := 1) (by kernel_rfl) el40 encN_ok F14 (F15.sl encN_ok) (by rfl) hk2 ?_
    intro w11 fp4 A6 cap6 F16 hc8 hp2
    have G6 := low_ap G2 hZ hp2
    have D6 : Dj fp3 fp4 := Dj.ap (D2).symm F13.low hp2
    have D7 : Dj [b3] fp4 := Dj.ap (D4).symm F15.low hp2
    replace F8 := F8.chg hc8 (Dj.of Lh G2)
    replace F9 := F9.chg hc8 (Dj.of L0 G2)
    replace F13 := F13.chg hc8 (D2).symm
    replace F15 := F15.chg hc8 (D4).symm
    replace hB := hB.inS hc8 (inLow G2)
    have hSz := hS
    replace hS := hS.trans hc8
    have Sn1 := sin_ap (Sg := fp2) (inMem (fun x hx => hx)) hSz.size hp2
    replace hZ := Nat.le_trans hZ hc8.size
    refine wS_end (by kernel_rfl) ?_
    refine eX_KH hS ?_
    refine wH_done (by kernel_rfl) ?_
    refine eX_tail ?_
    obtain ⟨_, hk3, hm⟩ := bindE hm
    replace hk3 := apE hk3
    refine wS_appendAny (enc := (encN ra rw rc)) (l := ((l3.take (Int.toNat x2)) ++ (([x6] : List (Nat))) : List (Nat))) (l2 := ((([] : List (Nat))) ++ (slc l3 x2 (((l3).length : Int))) : List (Nat))) (d := 46) (t := 40) (T := 66) (A := A6) (A2 := A5) (cap := cap6) (cap2 := cap5) (by kernel_rfl) el40 encN_ok F16 (F13.sl encN_ok) hk3 ?_
    intro w12 fp5 A7 cap7 F17 hc9 hp3
    have G7 := low_ap G6 hZ hp3
    have D8 : Dj fp3 fp5 := Dj.ap D6 F13.low hp3
    have D9 : Dj [b3] fp5 := Dj.ap D7 F15.low hp3
    replace F8 := F8.chg hc9 (Dj.of Lh G6)
    replace F9 := F9.chg hc9 (Dj.of L0 G6)
    replace F13 := F13.chg hc9 D6
    replace F15 := F15.chg hc9 D7
    replace hB := hB.inS hc9 (inLow G6)
    replace hZ := Nat.le_trans hZ hc9.size
    refine wS_pure 1 [(3, .slice A7 (((l3.take (Int.toNat x2)) ++ (([x6] : List (Nat)))) ++ ((([] : List (Nat))) ++ (slc l3 x2 (((l3).length : Int))))).length cap7)] (by kernel_rfl) ?_
    refine wS_end (by rfl) ?_
    refine eX_block ?_
    refine eX_then ?_
    refine cW_region ?_
    refine wS_pure 3 [(4, .int .i64 (wr (x1 + 1))), (13, .int .i64 (wr (x1 + 1))), (12, .int .i64 (x1))] (by kernel_rfl) ?_
    refine wS_end (by rfl) ?_
    have hq : (some (Ctl.next ((((l3.take (Int.toNat x2)) ++ (([x6] : List (Nat)))) ++ ((([] : List (Nat))) ++ (slc l3 x2 (((l3).length : Int)))), wr (x1 + 1)))) : Option (Ctl ((List (Nat)) × Int) ((List (Nat))))) = some _ := hm
    replace hq := someE hq
    subst hq
    exact eX_next hx1 (fun hst => ⟨((l3.take (Int.toNat x2)) ++ (([x6] : List (Nat)))) ++ ((([] : List (Nat))) ++ (slc l3 x2 (((l3).length : Int)))), A7, cap7, fp5, wr (x1 + 1), rfl, Fr.of hst (by kernel_rfl), F8, F9, F17, G7, hB, hZ⟩)
  ·have hm := condF hb1 hm
   refine cW_exit ?_
   refine eX_then_exit ?_
   have hq : (some (Ctl.out l3) : Option (Ctl ((List (Nat)) × Int) ((List (Nat))))) = some _ := hm
   replace hq := someE hq
   subst hq
   refine eX_outX hx1 (fun hr5 => ?_)
   replace hr5 := hr5.symm
   subst hr5
   refine eX_block_hit ?_
   exact eX_J (fun hst => ⟨l3, A3, cap3, fp2, rfl, Fr.of hst (by kernel_rfl), F2, F4, G2, hB, hZ⟩)
 ·rintro a' w13 ⟨l1, A1, cap1, fp1, hJ, hF4, F18, F19, G8, hB, hZ⟩
  subst hJ
  refine Fr.goX hF4 (by kernel_rfl) ?_
  refine eX_then ?_
  refine cW_seq ?_
  refine cW_region ?_
  refine wS_pure 2 [(2, .slice A1 (l1).length cap1), (47, .slice A1 (l1).length cap1)] (by kernel_rfl) ?_
  refine wS_end (by rfl) ?_
  refine eX_then ?_
  refine cW_ret ?_
  have hq : (some l1 : Option ((List (Nat)))) = some _ := hm
  replace hq := someE hq
  subst hq
  refine eX_ret (vs := [.slice A1 (l1).length cap1]) [.tmp 2] (by rfl) ⟨by (show lkE _ _ _ = _); kernel_rfl, trivial⟩ ?_
  exact ⟨A1, cap1, fp1, rfl, F19, G8, hB⟩

theorem c_spec_l05Pairs {w0 : World} {l0 : List (List (Int))} {A0 : Option Addr} {cap0 : Nat} {fp0 fr0 : List Nat} {r : List (List (Int))} (hm : m_spec_l05Pairs l0 = some r) (F0 : OwR 1 encI 66 2 w0 fp0 fr0 A0 cap0 l0) :
    Calls Try.prog 20 #[.slice A0 (l0).length cap0] w0 fun e w' => ∃ A100 cap100 fp100, e = .returned (.slice A100 (r).length cap100) ∧ OwR 1 encI 66 2 w' fp100 fr0 A100 cap100 r ∧ (∀ x ∈ fp100, w0.heap.size ≤ x) ∧ Chg [] w0 w' := by
  unfold m_spec_l05Pairs at hm
  obtain ⟨q, hq, hm⟩ := bindE hm
  obtain ⟨_, hc, hm⟩ := bindE hm
  replace hc := of_decide_eq_true (chkE hc)
  replace hm := someE hm
  subst hm
  obtain ⟨ra, rc, h1, h2, h3⟩ := OwR.ids F0
  have h := c_spec_l05Pairs_ids (cap0 := cap0) hq h2 h1
  rw [List.length_range] at h
  refine h.mono ?_
  rintro e w' ⟨A, cap, fp, rfl, g1, g2, g3⟩
  exact ⟨A, cap, fp, by rw [List.length_map], h3 _ _ _ _ _ g3 g2 g1 hc, g2, g3⟩

set_option maxRecDepth 100000 in
/-- impl.in -/
theorem c_impl_in {w0 : World} {p0 : Int} {p1 : Int} {p2 : Int} {r : (Bool)} (hm : m_impl_in p0 p1 p2 = some r)  :
  Calls Try.prog 50 #[.int .i64 (p0), .int .i64 (p1), .int .i64 (p2)] w0 fun e w' => e = .returned (.bool (r)) ∧ Chg [] w0 w' := by
 have hB : Chg [] w0 w0 := Chg.refl _ _
 have hZ := Nat.le_refl w0.heap.size
 unfold m_impl_in at hm
 refine enterE (N := 15) Try.func50 (by rfl) Try.ntmps50 (by simp) [(0, .int .i64 (p0)), (1, .int .i64 (p1)), (2, .int .i64 (p2))] (by rfl) (by kernel_rfl) (fun a => ?_)
 refine cW_seq ?_
 refine cW_region ?_
 refine wS_pure 1 [(6, .bool (false))] (by kernel_rfl) ?_
 refine wS_end (by rfl) ?_
 refine eX_then ?_
 refine cW_seq ?_
 refine cW_region ?_
 refine wS_pure 4 [(10, .bool (decide (p0 ≥ p1))), (9, .bool (decide (p0 ≥ p1))), (8, .int .i64 (p1)), (7, .int .i64 (p0))] (by kernel_rfl) ?_
 refine wS_bool (decide (p0 ≥ p1)) (fun hb1 => ?_) (fun hb1 => ?_)
 ·have hm := condT hb1 hm
  rewrite [hb1]
  refine wS_pure 5 [(6, .bool (decide (p0 ≤ p2))), (14, .bool (decide (p0 ≤ p2))), (13, .bool (decide (p0 ≤ p2))), (12, .int .i64 (p2)), (11, .int .i64 (p0))] (by kernel_rfl) ?_
  refine wS_end (by rfl) ?_
  refine eX_then ?_
  refine cW_ret ?_
  have hq : (some (decide (p0 ≤ p2)) : Option ((Bool))) = some _ := hm
  replace hq := someE hq
  subst hq
  refine eX_ret (vs := [.bool (decide (p0 ≤ p2))]) [.tmp 6] (by rfl) ⟨by (show lkE _ _ _ = _); kernel_rfl, trivial⟩ ?_
  exact ⟨rfl, hB⟩
 ·have hm := condF hb1 hm
  rewrite [hb1]
  refine wS_pure 5 [(6, .bool (false)), (14, .bool (false)), (13, undef), (12, undef), (11, undef)] (by kernel_rfl) ?_
  refine wS_end (by rfl) ?_
  refine eX_then ?_
  refine cW_ret ?_
  have hq : (some false : Option ((Bool))) = some _ := hm
  replace hq := someE hq
  subst hq
  refine eX_ret (vs := [.bool (false)]) [.tmp 6] (by rfl) ⟨by (show lkE _ _ _ = _); kernel_rfl, trivial⟩ ?_
  exact ⟨rfl, hB⟩

set_option maxRecDepth 100000 in
/-- impl.IsPoint -/
theorem c_impl_IsPoint {w0 : World} {p0_0 : Int} {p0_1 : Int} {r : (Bool)} (hm : m_impl_IsPoint p0_0 p0_1 = some r)  :
  Calls Try.prog 32 #[.agg #[.int .i64 (p0_0), .int .i64 (p0_1)]] w0 fun e w' => e = .returned (.bool (r)) ∧ Chg [] w0 w' := by
 have hB : Chg [] w0 w0 := Chg.refl _ _
 have hZ := Nat.le_refl w0.heap.size
 unfold m_impl_IsPoint at hm
 refine enterE (N := 11) Try.func32 (by rfl) Try.ntmps32 (by simp) [(0, .agg #[.int .i64 (p0_0), .int .i64 (p0_1)])] (by rfl) (by kernel_rfl) (fun a => ?_)
 refine cW_seq ?_
 refine cW_region ?_
 refine wS_box (d := 1) (T := 34) (x := .agg #[.int .i64 (p0_0), .int .i64 (p0_1)]) (by kernel_rfl) ?_
 intro b1 w1 G1 F1 hc1
 replace F1 : Cl w1 b1 34 [.int .i64 (p0_0), .int .i64 (p0_1)] := F1
 replace hB := hB.inS hc1 inNil
 replace G1 := Nat.le_trans hZ G1
 replace hZ := Nat.le_trans hZ hc1.size
 refine wS_pure 1 [(2, .bool (false))] (by kernel_rfl) ?_
 refine wS_end (by rfl) ?_
 refine eX_then ?_
 refine cW_seq ?_
 refine cW_region ?_
 refine wS_pure 1 [(3, .pointer (some ⟨b1, 0, none⟩))] (by kernel_rfl) ?_
 refine wS_load1 (d := 4) (T := 2) (ad := ⟨b1, 0, none⟩) (v := .int .i64 (p0_0)) (by kernel_rfl) vt2 ((F1).cell 0) ?_
 obtain ⟨y1, hy1, hm⟩ := bindE hm
 refine wS_calls (d := 5) (f := 50) (vs := [.int .i64 (p0_0), .int .i64 (0), .int .i64 (99)]) (by kernel_rfl) ent50 (c_impl_in hy1) ?_
 rintro _ w2 ⟨rfl, hc2⟩
 replace F1 := F1.chg hc2 notNil
 replace hB := hB.inS hc2 inNil
 replace hZ := Nat.le_trans hZ hc2.size
 refine ⟨.bool (y1), rfl, ?_⟩
 refine wS_pure 1 [(6, .bool (y1))] (by kernel_rfl) ?_
 refine wS_bool y1 (fun hb1 => ?_) (fun hb1 => ?_)
 ·have hm := condT hb1 hm
  rewrite [hb1]
  refine wS_pure 1 [(7, .pointer (some ⟨b1, 1, none⟩))] (by kernel_rfl) ?_
  refine wS_load1 (d := 8) (T := 2) (ad := ⟨b1, 1, none⟩) (v := .int .i64 (p0_1)) (by kernel_rfl) vt2 ((F1).cell 1) ?_
  obtain ⟨y2, hy2, hm⟩ := bindE hm
  refine wS_calls (d := 9) (f := 50) (vs := [.int .i64 (p0_1), .int .i64 (0), .int .i64 (99)]) (by kernel_rfl) ent50 (c_impl_in hy2) ?_
  rintro _ w3 ⟨rfl, hc3⟩
  replace F1 := F1.chg hc3 notNil
  replace hB := hB.inS hc3 inNil
  replace hZ := Nat.le_trans hZ hc3.size
  refine ⟨.bool (y2), rfl, ?_⟩
  refine wS_pure 2 [(2, .bool (y2)), (10, .bool (y2))] (by kernel_rfl) ?_
  refine wS_end (by rfl) ?_
  refine eX_then ?_
  refine cW_ret ?_
  have hq : (some y2 : Option ((Bool))) = some _ := hm
  replace hq := someE hq
  subst hq
  refine eX_ret (vs := [.bool (y2)]) [.tmp 2] (by rfl) ⟨by (show lkE _ _ _ = _); kernel_rfl, trivial⟩ ?_
  exact ⟨rfl, hB⟩
 ·have hm := condF hb1 hm
  rewrite [hb1]
  refine wS_pure 5 [(2, .bool (false)), (10, .bool (false)), (9, undef), (8, undef), (7, undef)] (by kernel_rfl) ?_
  refine wS_end (by rfl) ?_
  refine eX_then ?_
  refine cW_ret ?_
  have hq : (some false : Option ((Bool))) = some _ := hm
  replace hq := someE hq
  subst hq
  refine eX_ret (vs := [.bool (false)]) [.tmp 2] (by rfl) ⟨by (show lkE _ _ _ = _); kernel_rfl, trivial⟩ ?_
  exact ⟨rfl, hB⟩

set_option maxRecDepth 100000 in
/-- impl.noPoint -/
theorem c_impl_noPoint {w0 : World} {p0_0 : Int} {p0_1 : Int} {r : (Bool)} (hm : m_impl_noPoint p0_0 p0_1 = some r)  :
  Calls Try.prog 41 #[.agg #[.int .i64 (p0_0), .int .i64 (p0_1)]] w0 fun e w' => e = .returned (.bool (r)) ∧ Chg [] w0 w' := by
 have hB : Chg [] w0 w0 := Chg.refl _ _
 have hZ := Nat.le_refl w0.heap.size
 unfold m_impl_noPoint at hm
 refine enterE (N := 6) Try.func41 (by rfl) Try.ntmps41 (by simp) [(0, .agg #[.int .i64 (p0_0), .int .i64 (p0_1)])] (by rfl) (by kernel_rfl) (fun a => ?_)
 refine cW_seq ?_
 refine cW_region ?_
 refine wS_box (d := 1) (T := 34) (x := .agg #[.int .i64 (p0_0), .int .i64 (p0_1)]) (by kernel_rfl) ?_
 intro b1 w1 G1 F1 hc1
 replace F1 : Cl w1 b1 34 [.int .i64 (p0_0), .int .i64 (p0_1)] := F1
 replace hB := hB.inS hc1 inNil
 replace G1 := Nat.le_trans hZ G1
 replace hZ := Nat.le_trans hZ hc1.size
 refine wS_pure 1 [(2, .bool (false))] (by kernel_rfl) ?_
 refine wS_end (by rfl) ?_
 refine eX_then ?_
 refine cW_seq ?_
 refine cW_region ?_
 refine wS_loadA (d := 3) (T := 34) (ad := ⟨b1, 0, none⟩) (vs := [.int .i64 (p0_0), .int .i64 (p0_1)]) (by kernel_rfl) vt34 (fun i u hu => box_cells F1 0 hu (by rfl)) ?_
 obtain ⟨y1, hy1, hm⟩ := bindE hm
 refine wS_calls (d := 4) (f := 32) (vs := [.agg #[.int .i64 (p0_0), .int .i64 (p0_1)]]) (by kernel_rfl) ent32 (c_impl_IsPoint hy1) ?_
 rintro _ w2 ⟨rfl, hc2⟩
 replace F1 := F1.chg hc2 notNil
 replace hB := hB.inS hc2 inNil
 replace hZ := Nat.le_trans hZ hc2.size
 refine ⟨.bool (y1), rfl, ?_⟩
 refine wS_pure 2 [(2, .bool (!y1)), (5, .bool (!y1))] (by kernel_rfl) ?_
 refine wS_end (by rfl) ?_
 refine eX_then ?_
 refine cW_ret ?_
 have hq : (some (!y1) : Option ((Bool))) = some _ := hm
 replace hq := someE hq
 subst hq
 refine eX_ret (vs := [.bool (!y1)]) [.tmp 2] (by rfl) ⟨by (show lkE _ _ _ = _); kernel_rfl, trivial⟩ ?_
 exact ⟨rfl, hB⟩

set_option maxRecDepth 100000 in
/-- impl.Point] -/
theorem c_slices_Clone_impl_Point_impl_Point {w0 : World} {l0 : List (Int × Int)} {A0 : Option Addr} {cap0 : Nat} {fp0 : List Nat} {r : (List (Int × Int))} (hm : m_slices_Clone_impl_Point_impl_Point l0 = some r) (F0 : Sl 2 encII w0 fp0 A0 l0) :
  Calls Try.prog 58 #[.slice A0 (l0).length cap0] w0 fun e w' => ∃ A100 cap100 fp100, e = .returned (.slice A100 (r).length cap100) ∧ Ow 2 encII 34 w' fp100 A100 cap100 r ∧ (∀ x ∈ fp100, w0.heap.size ≤ x) ∧ Chg [] w0 w' := by
 have L0 := F0.low
 have hB : Chg [] w0 w0 := Chg.refl _ _
 have hZ := Nat.le_refl w0.heap.size
 unfold m_slices_Clone_impl_Point_impl_Point at hm
 refine enterE (N := 8) Try.func58 (by rfl) Try.ntmps58 (by simp) [(0, .slice A0 (l0).length cap0)] (by rfl) (by kernel_rfl) (fun a => ?_)
 refine cW_seq ?_
 refine cW_region ?_
 refine wS_pure 1 [(2, .slice none 0 0)] (by kernel_rfl) ?_
 refine wS_end (by rfl) ?_
 refine eX_then ?_
 refine cW_seq ?_
 refine cW_seq ?_
 refine cW_region ?_
 refine wS_pure 1 [(3, .slice A0 (l0).length cap0)] (by kernel_rfl) ?_
 rcases A0 with _ | ad1
 ·have hl1 := F0.none_nil
  subst hl1
  replace hm : (some ([])) = some _ := Eq.trans (by kernel_rfl) hm
  refine wS_pure 1 [(4, .bool (true))] (by kernel_rfl) ?_
  refine wS_end (by rfl) ?_
  refine eX_then ?_
  refine cW_cond_t (by kernel_rfl) ?_
  refine cW_seq ?_
  refine cW_region ?_
  refine wS_pure 1 [(2, .slice none 0 0)] (by kernel_rfl) ?_
  refine wS_end (by rfl) ?_
  refine eX_then ?_
  refine cW_ret ?_
  refine eX_then_ret ?_
  have hq : (some ([]) : Option ((List (Int × Int)))) = some _ := hm
  replace hq := someE hq
  subst hq
  refine eX_ret (vs := [.slice none 0 0]) [.tmp 2] (by rfl) ⟨by (show lkE _ _ _ = _); kernel_rfl, trivial⟩ ?_
  exact ⟨none, 0, [], rfl, Ow.nil _, lowNil, hB⟩
 ·skip
  refine wS_pure 1 [(4, .bool (false))] (by kernel_rfl) ?_
  refine wS_end (by rfl) ?_
  refine eX_then ?_
  refine cW_cond_f (by kernel_rfl) ?_
  refine cW_skip ?_
  refine eX_then ?_
  refine cW_seq ?_
  refine cW_region ?_
  refine wS_bs0 (α := Int × Int) (enc := encII) (d := 5) (t := 26) (T := 34) (by kernel_rfl) el26 ?_
  intro b1 w1 G1 F1 hc1
  replace F0 := F0.chg hc1 Dj.nil
  replace hB := hB.inS hc1 inNil
  replace G1 := Nat.le_trans hZ G1
  replace G1 := low1 G1
  replace hZ := Nat.le_trans hZ hc1.size
  refine wS_pure 1 [(6, .slice (some ad1) (l0).length cap0)] (by kernel_rfl) ?_
  obtain ⟨_, hk1, hm⟩ := bindE hm
  replace hk1 := apE hk1
  refine wS_appendAny (enc := encII) (l := (([] : List (Int × Int)) : List (Int × Int))) (l2 := (l0 : List (Int × Int))) (d := 7) (t := 26) (T := 34) (A := (some ⟨b1, 0, none⟩)) (A2 := (some ad1)) (cap := 0) (cap2 := cap0) (by kernel_rfl) el26 encII_ok F1 F0 hk1 ?_
  intro w2 fp1 A1 cap1 F2 hc2 hp1
  have G2 := low_ap G1 hZ hp1
  replace F0 := F0.chg hc2 (Dj.of L0 G1)
  replace hB := hB.inS hc2 (inLow G1)
  replace hZ := Nat.le_trans hZ hc2.size
  refine wS_pure 1 [(2, .slice A1 ((([] : List (Int × Int))) ++ l0).length cap1)] (by kernel_rfl) ?_
  refine wS_end (by rfl) ?_
  refine eX_then ?_
  refine cW_ret ?_
  have hq : (some ((([] : List (Int × Int))) ++ l0) : Option ((List (Int × Int)))) = some _ := hm
  replace hq := someE hq
  subst hq
  refine eX_ret (vs := [.slice A1 ((([] : List (Int × Int))) ++ l0).length cap1]) [.tmp 2] (by rfl) ⟨by (show lkE _ _ _ = _); kernel_rfl, trivial⟩ ?_
  exact ⟨A1, cap1, fp1, rfl, F2, G2, hB⟩

set_option maxRecDepth 100000 in
/-- impl.Point] -/
theorem c_slices_Compact_impl_Point_impl_Point {w0 : World} {l0 : List (Int × Int)} {A0 : Option Addr} {cap0 : Nat} {fp0 : List Nat} {r : (List (Int × Int))} (hm : m_slices_Compact_impl_Point_impl_Point l0 = some r) (F0 : Ow 2 encII 34 w0 fp0 A0 cap0 l0) (K0 : (l0).length ≤ cap0) :
  Calls Try.prog 60 #[.slice A0 (l0).length cap0] w0 fun e w' => e = .returned (.slice A0 (r).length cap0) ∧ Ow 2 encII 34 w' fp0 A0 cap0 r ∧ Chg (fp0 ++ []) w0 w' := by
 have L0 := F0.low
 have hB : Chg (fp0 ++ []) w0 w0 := Chg.refl _ _
 have hZ := Nat.le_refl w0.heap.size
 unfold m_slices_Compact_impl_Point_impl_Point at hm
 refine enterE (N := 61) Try.func60 (by rfl) Try.ntmps60 (by simp) [(0, .slice A0 (l0).length cap0)] (by rfl) (by kernel_rfl) (fun a => ?_)
 refine cW_seq ?_
 refine cW_region ?_
 refine wS_pure 1 [(2, .slice none 0 0)] (by kernel_rfl) ?_
 refine wS_end (by rfl) ?_
 refine eX_then ?_
 refine cW_seq ?_
 refine cW_seq ?_
 refine cW_region ?_
 refine wS_pure 3 [(8, .bool (decide ((((l0).length : Int)) < 2))), (7, .int .i64 (((l0).length : Int))), (6, .slice A0 (l0).length cap0)] (by kernel_rfl) ?_
 refine wS_end (by rfl) ?_
 refine eX_then ?_
 refine cW_cond (t := decide ((((l0).length : Int)) < 2)) (by kernel_rfl) (fun hb1 => ?_) (fun hb1 => ?_)
 ·have hm := condT hb1 hm
  refine cW_seq ?_
  refine cW_region ?_
  refine wS_pure 2 [(2, .slice A0 (l0).length cap0), (9, .slice A0 (l0).length cap0)] (by kernel_rfl) ?_
  refine wS_end (by rfl) ?_
  refine eX_then ?_
  refine cW_ret ?_
  refine eX_then_ret ?_
  have hq : (some l0 : Option ((List (Int × Int)))) = some _ := hm
  replace hq := someE hq
  subst hq
  refine eX_ret (vs := [.slice A0 (l0).length cap0]) [.tmp 2] (by rfl) ⟨by (show lkE _ _ _ = _); kernel_rfl, trivial⟩ ?_
  exact ⟨rfl, F0, hB⟩
 ·have hm := condF hb1 hm
  refine cW_skip ?_
  refine eX_then ?_
  refine cW_seq ?_
  refine cW_seq ?_
  refine cW_region ?_
  refine wS_pure 1 [(3, .int .i64 (1))] (by kernel_rfl) ?_
  refine wS_end (by rfl) ?_
  refine eX_then ?_
  obtain ⟨r1, hr1, hm⟩ := bindE hm
  have hm1 := hm
  refine cW_cut (fun a' w' => Sum.inl (()) = r1 ∧ Fr 61 [(0, .slice A0 (l0).length cap0)] a' ∧ Ow 2 encII 34 w' fp0 A0 cap0 l0 ∧ Chg (fp0 ++ []) w0 w' ∧ w0.heap.size ≤ w'.heap.size) ?_ ?_
  ·refine cW_block ?_
   refine cW_loop _ (fun (s1 : Int) a' w' => ∃ x1 : Int, x1 = s1 ∧ Fr 61 [(0, .slice A0 (l0).length cap0), (3, .int .i64 (x1))] a' ∧ Ow 2 encII 34 w' fp0 A0 cap0 l0 ∧ Chg (fp0 ++ []) w0 w' ∧ w0.heap.size ≤ w'.heap.size) hr1 (fun hst => ⟨1, rfl, Fr.of hst (by kernel_rfl), F0, hB, hZ⟩) ?_
   rintro _ c1 a' w1 ⟨x1, rfl, hF1, F1, hB, hZ⟩ hx1
   refine Fr.goOn hF1 (by kernel_rfl) ?_
   have hm := hx1
   unfold m_slices_Compact_impl_Point_impl_Point_s3 at hm
   refine cW_seq ?_
   refine cW_seq ?_
   refine cW_region ?_
   refine wS_pure 4 [(13, .bool (decide (x1 < (((l0).length : Int))))), (12, .int .i64 (((l0).length : Int))), (11, .slice A0 (l0).length cap0), (10, .int .i64 (x1))] (by kernel_rfl) ?_
   refine wS_end (by rfl) ?_
   refine eX_then ?_
   refine cW_cond (t := decide (x1 < (((l0).length : Int)))) (by kernel_rfl) (fun hb2 => ?_) (fun hb2 => ?_)
   ·have hm := condT hb2 hm
    refine cW_skip ?_
    refine eX_then ?_
    refine cW_seq ?_
    refine cW_block ?_
    refine cW_seq ?_
    refine cW_drawnTail [] 9 (by kernel_rfl) (by kernel_rfl) (fun w2 hc1 => ?_)
    replace F1 := F1.chg hc1 Dj.nil
    replace hB := hB.inS hc1 inNil
    replace hZ := Nat.le_trans hZ hc1.size
    have hS := Chg.refl [] w2
    have Z1 := F1
    refine wH_take [0, 1] [1, 0] [(17, .int .i64 (x1)), (16, .slice A0 (l0).length cap0)] (by kernel_rfl) (qT (qT (qB (qT (qL (qB (qT (qT qZ)))))))) (by kernel_rfl) ?_
    obtain ⟨x2, hx2, hm⟩ := bindE hm
    refine wH_idx (i := 2) (d := 18) (T := 26) (A := A0) (n := (l0).length) (cap := cap0) (kd := .i64) (m := x1) (by kernel_rfl) (qT (qT (qB (qT (qL (qB (qT (qT qZ)))))))) (by kernel_rfl) (by kernel_rfl) sl26 ((F1.sl encII_ok).is hx2) ?_
    refine wH_loadA (i := 3) (d := 19) (T := 34) (ad := (elA A0 2 (x1) 0)) (vs := [.int .i64 (x2.1), .int .i64 (x2.2)]) (by kernel_rfl) (qT (qT (qB (qT (qL (qB (qT (qT qZ)))))))) (by kernel_rfl) (by kernel_rfl) vt34 (fun W hW i u hu => Sl.cells_at ((Z1.chg hW Dj.nil).sl encII_ok) hx2 0 hu (by rfl)) ?_
    refine wH_take [4, 5, 6] [6, 5, 4, 3, 2, 1, 0] [(22, .int .i64 (wr (x1 - 1))), (21, .int .i64 (x1)), (20, .slice A0 (l0).length cap0)] (by kernel_rfl) (qT (qT (qB (qT (qL (qB (qT (qT qZ)))))))) (by kernel_rfl) ?_
    obtain ⟨x3, hx3, hm⟩ := bindE hm
    refine wH_idx (i := 7) (d := 23) (T := 26) (A := A0) (n := (l0).length) (cap := cap0) (kd := .i64) (m := wr (x1 - 1)) (by kernel_rfl) (qT (qT (qB (qT (qL (qB (qT (qT qZ)))))))) (by kernel_rfl) (by kernel_rfl) sl26 ((F1.sl encII_ok).is hx3) ?_
    refine wH_loadA (i := 8) (d := 24) (T := 34) (ad := (elA A0 2 (wr (x1 - 1)) 0)) (vs := [.int .i64 (x3.1), .int .i64 (x3.2)]) (by kernel_rfl) (qT (qT (qB (qT (qL (qB (qT (qT qZ)))))))) (by kernel_rfl) (by kernel_rfl) vt34 (fun W hW i u hu => Sl.cells_at ((Z1.chg hW Dj.nil).sl encII_ok) hx3 0 hu (by rfl)) ?_
    refine wH_done (by kernel_rfl) ?_
    refine eX_tail ?_
    refine wS_eqS (d := 25) (T := 34) (x := x2.1) (y := x2.2) (x' := x3.1) (y' := x3.2) (by kernel_rfl) eq34 ?_
    refine wS_end (by rfl) ?_
    refine eX_then ?_
    refine cW_cond (t := x2.1 == x3.1 && x2.2 == x3.2) (by kernel_rfl) (fun hb3 => ?_) (fun hb3 => ?_)
    ·have hm := condT hb3 hm
     refine cW_seq ?_
     refine cW_region ?_
     refine wS_pure 2 [(27, .int .i64 (x1)), (26, .slice A0 (l0).length cap0)] (by kernel_rfl) ?_
     obtain ⟨y1, hy1, hm⟩ := bindE hm
     refine wS_cutA (enc := encII) (l := l0) (d := 28) (T := 26) (A := A0) (cap := cap0) (vlo := some (.int .i64 (x1))) (vhi := none) (lo := x1) (hi := ((l0).length : Int)) (n := 0) (by kernel_rfl) sl26 (Or.inl rfl) (Or.inr ⟨rfl, rfl⟩) (F1.sl encII_ok) F1.cap_le hy1 ?_
     intro A1 cap1 hA1 F2 hcap1
     obtain rfl := slci_slc hy1
     have hcz1 := F1.cap_le
     refine wS_pure 1 [(4, .slice A1 (slc l0 x1 (((l0).length : Int))).length cap1)] (by kernel_rfl) ?_
     refine wS_end (by rfl) ?_
     refine eX_then ?_
     refine cW_seq ?_
     refine cW_seq ?_
     refine cW_region ?_
     refine wS_pure 1 [(5, .int .i64 (1))] (by kernel_rfl) ?_
     refine wS_end (by rfl) ?_
     refine eX_then ?_
     obtain ⟨r2, hr2, hm⟩ := bindE hm
     have hm2 := hm
     refine cW_cut (fun a' w' => ∃ x4 : Int, ∃ l1 : List (Int × Int), (x4, l1) = r2 ∧ Fr 61 [(0, .slice A0 (l1).length cap0), (3, .int .i64 (x4))] a' ∧ Ow 2 encII 34 w' fp0 A0 cap0 l1 ∧ (l1).length = (l0).length ∧ Chg (fp0 ++ []) w0 w' ∧ w0.heap.size ≤ w'.heap.size) ?_ ?_
     ·refine cW_block ?_
      refine cW_loop _ (fun (s2 : Int × Int × (List (Int × Int))) a' w' => ∃ x5 : Int, ∃ x6 : Int, ∃ l2 : List (Int × Int), (x5, x6, l2) = s2 ∧ Fr 61 [(0, .slice A0 (l2).length cap0), (3, .int .i64 (x5)), (4, .slice A1 (slc l2 x1 (((l0).length : Int))).length cap1), (5, .int .i64 (x6))] a' ∧ Ow 2 encII 34 w' fp0 A0 cap0 l2 ∧ Sl 2 encII w' fp0 A1 (slc l2 x1 (((l0).length : Int))) ∧ (l2).length = (l0).length ∧ Chg (fp0 ++ []) w0 w' ∧ w0.heap.size ≤ w'.heap.size) hr2 (fun hst => ⟨x1, 1, l0, rfl, Fr.of hst (by kernel_rfl), F1, F2, (Eq.refl (l0).length), hB, hZ⟩) ?_
      rintro _ c2 a' w3 ⟨x5, x6, l2, rfl, hF2, F3, F4, hl1, hB, hZ⟩ hx4
      refine Fr.goOn hF2 (by kernel_rfl) ?_
      have hm := hx4
      unfold m_slices_Compact_impl_Point_impl_Point_s4 at hm
      refine cW_seq ?_
      refine cW_seq ?_
      refine cW_region ?_
      refine wS_pure 4 [(32, .bool (decide (x6 < (((slc l2 x1 (((l0).length : Int))).length : Int))))), (31, .int .i64 (((slc l2 x1 (((l0).length : Int))).length : Int))), (30, .slice A1 (slc l2 x1 (((l0).length : Int))).length cap1), (29, .int .i64 (x6))] (by kernel_rfl) ?_
      refine wS_end (by rfl) ?_
      refine eX_then ?_
      refine cW_cond (t := decide (x6 < (((slc l2 x1 (((l0).length : Int))).length : Int)))) (by kernel_rfl) (fun hb4 => ?_) (fun hb4 => ?_)
      ·have hm := condT hb4 hm
       refine cW_skip ?_
       refine eX_then ?_
       refine cW_seq ?_
       refine cW_block ?_
       obtain ⟨s3, hs1, hm⟩ := bindE hm
       refine cW_cut (fun a' w' => ∃ x7 : Int, ∃ l3 : List (Int × Int), (x7, l3) = s3 ∧ Fr 61 [(0, .slice A0 (l3).length cap0), (3, .int .i64 (x7)), (4, .slice A1 (slc l3 x1 (((l0).length : Int))).length cap1), (5, .int .i64 (x6))] a' ∧ Ow 2 encII 34 w' fp0 A0 cap0 l3 ∧ Sl 2 encII w' fp0 A1 (slc l3 x1 (((l0).length : Int))) ∧ (l3).length = (l0).length ∧ Chg (fp0 ++ []) w0 w' ∧ w0.heap.size ≤ w'.heap.size) ?_ ?_
       ·have hm := hs1
        refine cW_seq ?_
        refine cW_drawnTail [] 9 (by kernel_rfl) (by kernel_rfl) (fun w4 hc2 => ?_)
        replace F3 := F3.chg hc2 Dj.nil
        replace F4 := F4.chg hc2 Dj.nil
        replace hB := hB.inS hc2 inNil
        replace hZ := Nat.le_trans hZ hc2.size
        have hS := Chg.refl [] w4
        have Z2 := F3
        have Z3 := F4
        refine wH_take [0, 1] [1, 0] [(36, .int .i64 (x6)), (35, .slice A1 (slc l2 x1 (((l0).length : Int))).length cap1)] (by kernel_rfl) (qT (qT (qT (qB (qT (qL (qB (qT (qT (qB (qT (qL (qB (qT (qT qZ))))))))))))))) (by kernel_rfl) ?_
        obtain ⟨x8, hx5, hm⟩ := bindE hm
        refine wH_idx (i := 2) (d := 37) (T := 26) (A := A1) (n := (slc l2 x1 (((l0).length : Int))).length) (cap := cap1) (kd := .i64) (m := x6) (by kernel_rfl) (qT (qT (qT (qB (qT (qL (qB (qT (qT (qB (qT (qL (qB (qT (qT qZ))))))))))))))) (by kernel_rfl) (by kernel_rfl) sl26 (F4.is hx5) ?_
        refine wH_loadA (i := 3) (d := 38) (T := 34) (ad := (elA A1 2 (x6) 0)) (vs := [.int .i64 (x8.1), .int .i64 (x8.2)]) (by kernel_rfl) (qT (qT (qT (qB (qT (qL (qB (qT (qT (qB (qT (qL (qB (qT (qT qZ))))))))))))))) (by kernel_rfl) (by kernel_rfl) vt34 (fun W hW i u hu => Sl.cells_at (Z3.chg hW Dj.nil) hx5 0 hu (by rfl)) ?_
        refine wH_take [4, 5, 6] [6, 5, 4, 3, 2, 1, 0] [(41, .int .i64 (wr (x6 - 1))), (40, .int .i64 (x6)), (39, .slice A1 (slc l2 x1 (((l0).length : Int))).length cap1)] (by kernel_rfl) (qT (qT (qT (qB (qT (qL (qB (qT (qT (qB (qT (qL (qB (qT (qT qZ))))))))))))))) (by kernel_rfl) ?_
        obtain ⟨x9, hx6, hm⟩ := bindE hm
        refine wH_idx (i := 7) (d := 42) (T := 26) (A := A1) (n := (slc l2 x1 (((l0).length : Int))).length) (cap := cap1) (kd := .i64) (m := wr (x6 - 1)) (by kernel_rfl) (qT (qT (qT (qB (qT (qL (qB (qT (qT (qB (qT (qL (qB (qT (qT qZ))))))))))))))) (by kernel_rfl) (by kernel_rfl) sl26 (F4.is hx6) ?_
        refine wH_loadA (i := 8) (d := 43) (T := 34) (ad := (elA A1 2 (wr (x6 - 1)) 0)) (vs := [.int .i64 (x9.1), .int .i64 (x9.2)]) (by kernel_rfl) (qT (qT (qT (qB (qT (qL (qB (qT (qT (qB (qT (qL (qB (qT (qT qZ))))))))))))))) (by kernel_rfl) (by kernel_rfl) vt34 (fun W hW i u hu => Sl.cells_at (Z3.chg hW Dj.nil) hx6 0 hu (by rfl)) ?_
        refine wH_done (by kernel_rfl) ?_
        refine eX_tail ?_
        refine wS_neS (d := 44) (T := 34) (x := x8.1) (y := x8.2) (x' := x9.1) (y' := x9.2) (by kernel_rfl) eq34 ?_
        refine wS_end (by rfl) ?_
        refine eX_then ?_
        refine cW_cond (t := !(x8.1 == x9.1 && x8.2 == x9.2)) (by kernel_rfl) (fun hb5 => ?_) (fun hb5 => ?_)
        ·have hm := condT hb5 hm
         refine cW_seq ?_
         refine cW_region ?_
         refine wS_pure 4 [(48, .int .i64 (x6)), (47, .slice A1 (slc l2 x1 (((l0).length : Int))).length cap1), (46, .int .i64 (x5)), (45, .slice A0 (l2).length cap0)] (by kernel_rfl) ?_
         obtain ⟨x10, hx7, hm⟩ := bindE hm
         refine wS_idx (d := 49) (T := 26) (A := A1) (n := (slc l2 x1 (((l0).length : Int))).length) (cap := cap1) (kd := .i64) (m := x6) (by kernel_rfl) sl26 (F4.is hx7) ?_
         refine wS_loadA (d := 50) (T := 34) (ad := (elA A1 2 (x6) 0)) (vs := [.int .i64 (x10.1), .int .i64 (x10.2)]) (by kernel_rfl) vt34 (fun i u hu => Sl.cells_at F4 hx7 0 hu (by rfl)) ?_
         obtain ⟨x11, hx8, hm⟩ := bindE hm
         refine wS_idx (d := 51) (T := 26) (A := A0) (n := (l2).length) (cap := cap0) (kd := .i64) (m := x5) (by kernel_rfl) sl26 ((F3.sl encII_ok).is hx8) ?_
         refine wS_storeEl (x := x11) ((x10.1, x10.2)) (T := 34) (U := 34) (cap := cap0) (j := 0) (A := A0) (v := .agg #[.int .i64 (x10.1), .int .i64 (x10.2)]) (vs := [.int .i64 (x10.1), .int .i64 (x10.2)]) (m := x5) (by kernel_rfl) (by rfl) sz34 (by rfl) encII_ok F3 hx8 (by simp only [List.length_cons, List.length_nil]; omega) (by rfl) ?_
         intro w5 F5 hc3
         replace hB := hB.inS hc3 (inMem (fun x hx => (List.mem_append_left _ hx)))
         replace hZ := Nat.le_trans hZ hc3.size
         clear F3
         have hl2 := (show (l2.set (Int.toNat x5) ((x10.1, x10.2))).length = (l2).length from List.length_set ..).trans hl1
         rewrite [show (l2).length = (l2.set (Int.toNat x5) ((x10.1, x10.2))).length from (List.length_set ..).symm]
         have F6 := Sl.recut (F5.sl encII_ok) hA1 hy1 hcz1 (hl2.trans (Eq.refl (l0).length).symm)
         first | rewrite [show (slc l2 x1 (((l0).length : Int))).length = (slc (l2.set (Int.toNat x5) ((x10.1, x10.2))) x1 (((l0).length : Int))).length from (slc_length (show (l2.set (Int.toNat x5) ((x10.1, x10.2))).length = (l2).length from List.length_set ..)).symm] | skip
         refine wS_end (by rfl) ?_
         refine eX_then ?_
         refine cW_prune [(0, .slice A0 (l2.set (Int.toNat x5) ((x10.1, x10.2))).length cap0), (3, .int .i64 (x5)), (4, .slice A1 (slc (l2.set (Int.toNat x5) ((x10.1, x10.2))) x1 (((l0).length : Int))).length cap1), (5, .int .i64 (x6))] (by kernel_rfl) (by kernel_rfl) (fun a1 => ?_)
         refine cW_region ?_
         refine wS_pure 3 [(3, .int .i64 (wr (x5 + 1))), (53, .int .i64 (wr (x5 + 1))), (52, .int .i64 (x5))] (by kernel_rfl) ?_
         refine wS_end (by rfl) ?_
         have hq : (some ((wr (x5 + 1), l2.set (Int.toNat x5) ((x10.1, x10.2)))) : Option (Int × (List (Int × Int)))) = some _ := hm
         replace hq := someE hq
         subst hq
         exact eX_J (fun hst => ⟨wr (x5 + 1), l2.set (Int.toNat x5) ((x10.1, x10.2)), rfl, Fr.of hst (by kernel_rfl), F5, F6, hl2, hB, hZ⟩)
        ·have hm := condF hb5 hm
         refine cW_skip ?_
         have hq : (some ((x5, l2)) : Option (Int × (List (Int × Int)))) = some _ := hm
         replace hq := someE hq
         subst hq
         exact eX_J (fun hst => ⟨x5, l2, rfl, Fr.of hst (by kernel_rfl), F3, F4, hl1, hB, hZ⟩)
       ·rintro a' w6 ⟨x7, l3, hJ, hF3, F7, F8, hl3, hB, hZ⟩
        subst hJ
        refine Fr.goX hF3 (by kernel_rfl) ?_
        refine eX_block ?_
        refine eX_then ?_
        refine cW_region ?_
        refine wS_pure 3 [(5, .int .i64 (wr (x6 + 1))), (34, .int .i64 (wr (x6 + 1))), (33, .int .i64 (x6))] (by kernel_rfl) ?_
        refine wS_end (by rfl) ?_
        have hq : (some (Ctl.next ((x7, wr (x6 + 1), l3))) : Option (Ctl (Int × Int × (List (Int × Int))) (Int × (List (Int × Int))))) = some _ := hm
        replace hq := someE hq
        subst hq
        exact eX_next hx4 (fun hst => ⟨x7, wr (x6 + 1), l3, rfl, Fr.of hst (by kernel_rfl), F7, F8, hl3, hB, hZ⟩)
      ·have hm := condF hb4 hm
       refine cW_exit ?_
       refine eX_then_exit ?_
       have hq : (some (Ctl.out ((x5, l2))) : Option (Ctl (Int × Int × (List (Int × Int))) (Int × (List (Int × Int))))) = some _ := hm
       replace hq := someE hq
       subst hq
       refine eX_outX hx4 (fun hr3 => ?_)
       replace hr3 := hr3.symm
       subst hr3
       refine eX_block_hit ?_
       exact eX_J (fun hst => ⟨x5, l2, rfl, Fr.of hst (by kernel_rfl), F3, hl1, hB, hZ⟩)
     ·rintro a' w7 ⟨x4, l1, hJ, hF4, F9, hl4, hB, hZ⟩
      subst hJ
      refine Fr.goX hF4 (by kernel_rfl) ?_
      refine eX_then ?_
      refine cW_seq ?_
      refine cW_region ?_
      refine wS_pure 2 [(55, .int .i64 (x4)), (54, .slice A0 (l1).length cap0)] (by kernel_rfl) ?_
      obtain ⟨y2, hy2, hm⟩ := bindE hm
      refine wS_cutA (enc := encII) (l := l1) (d := 56) (T := 26) (A := A0) (cap := cap0) (vlo := some (.int .i64 (x4))) (vhi := none) (lo := x4) (hi := ((l1).length : Int)) (n := 0) (by kernel_rfl) sl26 (Or.inl rfl) (Or.inr ⟨rfl, rfl⟩) (F9.sl encII_ok) F9.cap_le hy2 ?_
      intro A2 cap2 hA2 F10 hcap2
      obtain rfl := slci_slc hy2
      have hcz2 := F9.cap_le
      refine wS_clear (A' := A2) (c' := cap2) (x0 := ((0, 0) : Int × Int)) (l := l1) (l0 := l1) (T := 26) (A := A0) (cap := cap0) (lo := x4) (by kernel_rfl) el26 encII_ok (by rfl) (by kernel_rfl) F9 hA2 hy2 rfl ?_
      intro w8 F11 hlc1 hc4
      replace hB := hB.inS hc4 (inMem (fun x hx => (List.mem_append_left _ hx)))
      replace hZ := Nat.le_trans hZ hc4.size
      clear F9
      have hl5 := hlc1.trans hl4
      rewrite [show (l1).length = (clr ((0, 0) : Int × Int) l1 x4).length from hlc1.symm]
      refine wS_end (by rfl) ?_
      refine eX_then ?_
      refine cW_seq ?_
      refine cW_region ?_
      refine wS_pure 2 [(58, .int .i64 (x4)), (57, .slice A0 (clr ((0, 0) : Int × Int) l1 x4).length cap0)] (by kernel_rfl) ?_
      obtain ⟨y3, hy3, hm⟩ := bindE hm
      refine wS_prefix (k := 2) (enc := encII) (U := 34) (l := clr ((0, 0) : Int × Int) l1 x4) (d := 59) (T := 26) (A := A0) (cap := cap0) (hi := x4) (by kernel_rfl) sl26 encII_ok F11 F11.cap_le hy3 ?_
      intro hpe F12
      subst hpe
      refine wS_pure 1 [(2, .slice A0 ((clr ((0, 0) : Int × Int) l1 x4).take (Int.toNat x4)).length cap0)] (by kernel_rfl) ?_
      refine wS_end (by rfl) ?_
      refine eX_then ?_
      refine cW_ret ?_
      refine eX_block_ret ?_
      refine eX_then_ret ?_
      have hq : (some (Ctl.out (Sum.inr ((clr ((0, 0) : Int × Int) l1 x4).take (Int.toNat x4)))) : Option (Ctl (Int) (Sum (Unit) ((List (Int × Int)))))) = some _ := hm
      replace hq := someE hq
      subst hq
      refine eX_outR hx1 (fun hr => ?_)
      subst hr
      refine eX_block_ret ?_
      refine eX_then_ret ?_
      refine eX_then_ret ?_
      have hq : (some ((clr ((0, 0) : Int × Int) l1 x4).take (Int.toNat x4)) : Option ((List (Int × Int)))) = some _ := hm1
      replace hq := someE hq
      subst hq
      refine eX_ret (vs := [.slice A0 ((clr ((0, 0) : Int × Int) l1 x4).take (Int.toNat x4)).length cap0]) [.tmp 2] (by rfl) ⟨by (show lkE _ _ _ = _); kernel_rfl, trivial⟩ ?_
      exact ⟨rfl, F12, hB⟩
    ·have hm := condF hb3 hm
     refine cW_skip ?_
     refine eX_block ?_
     refine eX_then ?_
     refine cW_region ?_
     refine wS_pure 3 [(3, .int .i64 (wr (x1 + 1))), (15, .int .i64 (wr (x1 + 1))), (14, .int .i64 (x1))] (by kernel_rfl) ?_
     refine wS_end (by rfl) ?_
     have hq : (some (Ctl.next (wr (x1 + 1))) : Option (Ctl (Int) (Sum (Unit) ((List (Int × Int)))))) = some _ := hm
     replace hq := someE hq
     subst hq
     exact eX_next hx1 (fun hst => ⟨wr (x1 + 1), rfl, Fr.of hst (by kernel_rfl), F1, hB, hZ⟩)
   ·have hm := condF hb2 hm
    refine cW_exit ?_
    refine eX_then_exit ?_
    have hq : (some (Ctl.out (Sum.inl (()))) : Option (Ctl (Int) (Sum (Unit) ((List (Int × Int)))))) = some _ := hm
    replace hq := someE hq
    subst hq
    refine eX_outX hx1 (fun hr4 => ?_)
    replace hr4 := hr4.symm
    subst hr4
    refine eX_block_hit ?_
    exact eX_J (fun hst => ⟨rfl, Fr.of hst (by kernel_rfl), F1, hB, hZ⟩)
  ·rintro a' w9 ⟨hJ, hF5, F13, hB, hZ⟩
   subst hJ
   refine Fr.goX hF5 (by kernel_rfl) ?_
   refine eX_then ?_
   refine cW_seq ?_
   refine cW_region ?_
   refine wS_pure 2 [(2, .slice A0 (l0).length cap0), (60, .slice A0 (l0).length cap0)] (by kernel_rfl) ?_
   refine wS_end (by rfl) ?_
   refine eX_then ?_
   refine cW_ret ?_
   have hq : (some l0 : Option ((List (Int × Int)))) = some _ := hm
   replace hq := someE hq
   subst hq
   refine eX_ret (vs := [.slice A0 (l0).length cap0]) [.tmp 2] (by rfl) ⟨by (show lkE _ _ _ = _); kernel_rfl, trivial⟩ ?_
   exact ⟨rfl, F13, hB⟩

set_option maxRecDepth 100000 in
/-- impl.sorted -/
theorem c_impl_sorted {w0 : World} {l0 : List (Int × Int)} {A0 : Option Addr} {cap0 : Nat} {fp0 : List Nat} {r : (List (Int × Int))} (hm : m_impl_sorted l0 = some r) (F0 : Sl 2 encII w0 fp0 A0 l0) :
  Calls Try.prog 42 #[.slice A0 (l0).length cap0] w0 fun e w' => ∃ A100 cap100 fp100, e = .returned (.slice A100 (r).length cap100) ∧ Ow 2 encII 34 w' fp100 A100 cap100 r ∧ (∀ x ∈ fp100, w0.heap.size ≤ x) ∧ Chg [] w0 w' := by
 have L0 := F0.low
 have hB : Chg [] w0 w0 := Chg.refl _ _
 have hZ := Nat.le_refl w0.heap.size
 unfold m_impl_sorted at hm
 refine enterE (N := 10) Try.func42 (by rfl) Try.ntmps42 (by simp) [(0, .slice A0 (l0).length cap0)] (by rfl) (by kernel_rfl) (fun a => ?_)
 refine cW_seq ?_
 refine cW_region ?_
 refine wS_pure 1 [(2, .slice none 0 0)] (by kernel_rfl) ?_
 refine wS_end (by rfl) ?_
 refine eX_then ?_
 refine cW_seq ?_
 refine cW_region ?_
 refine wS_pure 1 [(4, .slice A0 (l0).length cap0)] (by kernel_rfl) ?_
 obtain ⟨y1, hy1, hm⟩ := bindE hm
 refine wS_calls (d := 5) (f := 58) (vs := [.slice A0 (l0).length cap0]) (by kernel_rfl) ent58 (c_slices_Clone_impl_Point_impl_Point hy1 F0) ?_
 rintro _ w1 ⟨A1, cap1, fp1, rfl, F1, G1, hc1⟩
 replace F0 := F0.chg hc1 Dj.nil
 replace hB := hB.inS hc1 inNil
 replace G1 := low_le hZ G1
 replace hZ := Nat.le_trans hZ hc1.size
 refine ⟨.slice A1 (y1).length cap1, rfl, ?_⟩
 refine wS_pure 1 [(3, .slice A1 (y1).length cap1)] (by kernel_rfl) ?_
 refine wS_end (by rfl) ?_
 refine eX_then ?_
 refine cW_seq ?_
 refine cW_region ?_
 refine wS_pure 1 [(6, .slice A1 (y1).length cap1)] (by kernel_rfl) ?_
 obtain ⟨y2, hy2, hm⟩ := bindE hm
 refine wS_calls (d := 7) (f := 59) (vs := [.slice A1 (y1).length cap1, .func (.func 47) #[] #[]]) (by kernel_rfl) ent59 (c_slices_SortFunc_impl_Point_impl_Point_impl_pointOrder hy2 F1) ?_
 rintro _ w2 ⟨rfl, F2, hl1, hc2⟩
 replace F0 := F0.chg hc2 (Dj.app (Dj.of L0 G1) Dj.nil)
 replace hB := hB.inS hc2 (inApp (inLow G1) inNil)
 replace hZ := Nat.le_trans hZ hc2.size
 clear F1
 refine ⟨.tuple #[], rfl, ?_⟩
 rewrite [(show (y1).length = (y2).length from hl1.symm)]
 refine wS_end (by rfl) ?_
 refine eX_then ?_
 refine cW_seq ?_
 refine cW_region ?_
 refine wS_pure 1 [(8, .slice A1 (y2).length cap1)] (by kernel_rfl) ?_
 obtain ⟨y3, hy3, hm⟩ := bindE hm
 refine wS_calls (d := 9) (f := 60) (vs := [.slice A1 (y2).length cap1]) (by kernel_rfl) ent60 (c_slices_Compact_impl_Point_impl_Point hy3 F2 F2.cap_le) ?_
 rintro _ w3 ⟨rfl, F3, hc3⟩
 replace F0 := F0.chg hc3 (Dj.app (Dj.of L0 G1) Dj.nil)
 replace hB := hB.inS hc3 (inApp (inLow G1) inNil)
 clear F2
 replace hZ := Nat.le_trans hZ hc3.size
 refine ⟨.slice A1 (y3).length cap1, rfl, ?_⟩
 refine wS_pure 1 [(2, .slice A1 (y3).length cap1)] (by kernel_rfl) ?_
 refine wS_end (by rfl) ?_
 refine eX_then ?_
 refine cW_ret ?_
 have hq : (some y3 : Option ((List (Int × Int)))) = some _ := hm
 replace hq := someE hq
 subst hq
 refine eX_ret (vs := [.slice A1 (y3).length cap1]) [.tmp 2] (by rfl) ⟨by (show lkE _ _ _ = _); kernel_rfl, trivial⟩ ?_
 exact ⟨A1, cap1, fp1, rfl, F3, G1, hB⟩

set_option maxRecDepth 100000 in
/-- impl.Point] -/
theorem c_slices_IndexFunc_impl_Point_impl_Point_impl_noPoint {w0 : World} {l0 : List (Int × Int)} {A0 : Option Addr} {cap0 : Nat} {fp0 : List Nat} {r : (Int)} (hm : m_slices_IndexFunc_impl_Point_impl_Point_impl_noPoint l0 = some r) (F0 : Sl 2 encII w0 fp0 A0 l0) :
  Calls Try.prog 57 #[.slice A0 (l0).length cap0, .func (.func 41) #[] #[]] w0 fun e w' => e = .returned (.int .i64 (r)) ∧ Chg [] w0 w' := by
 have L0 := F0.low
 have hB : Chg [] w0 w0 := Chg.refl _ _
 have hZ := Nat.le_refl w0.heap.size
 unfold m_slices_IndexFunc_impl_Point_impl_Point_impl_noPoint at hm
 refine enterE (N := 19) Try.func57 (by rfl) Try.ntmps57 (by simp) [(0, .slice A0 (l0).length cap0), (1, .func (.func 41) #[] #[])] (by rfl) (by kernel_rfl) (fun a => ?_)
 refine cW_seq ?_
 refine cW_region ?_
 refine wS_pure 1 [(4, .int .i64 (0))] (by kernel_rfl) ?_
 refine wS_end (by rfl) ?_
 refine eX_then ?_
 refine cW_seq ?_
 refine cW_seq ?_
 refine cW_region ?_
 refine wS_pure 3 [(8, .int .i64 (0)), (7, .int .i64 (((l0).length : Int))), (6, .slice A0 (l0).length cap0)] (by kernel_rfl) ?_
 refine wS_end (by rfl) ?_
 refine eX_then ?_
 obtain ⟨r1, hr1, hm⟩ := bindE hm
 have hm1 := hm
 refine cW_cut (fun a' w' => Sum.inl (()) = r1 ∧ Fr 19 [] a' ∧ Chg [] w0 w' ∧ w0.heap.size ≤ w'.heap.size) ?_ ?_
 ·refine cW_block ?_
  refine cW_loop _ (fun (s1 : Int) a' w' => ∃ x1 : Int, x1 = s1 ∧ Fr 19 [(0, .slice A0 (l0).length cap0), (1, .func (.func 41) #[] #[]), (7, .int .i64 (((l0).length : Int))), (8, .int .i64 (x1))] a' ∧ Sl 2 encII w' fp0 A0 l0 ∧ Chg [] w0 w' ∧ w0.heap.size ≤ w'.heap.size) hr1 (fun hst => ⟨0, rfl, Fr.of hst (by kernel_rfl), F0, hB, hZ⟩) ?_
  rintro _ c1 a' w1 ⟨x1, rfl, hF1, F1, hB, hZ⟩ hx1
  refine Fr.goOn hF1 (by kernel_rfl) ?_
  have hm := hx1
  unfold m_slices_IndexFunc_impl_Point_impl_Point_impl_noPoint_s1 at hm
  refine cW_seq ?_
  refine cW_region ?_
  refine wS_pure 1 [(9, .bool (decide (x1 < (((l0).length : Int)))))] (by kernel_rfl) ?_
  refine wS_end (by rfl) ?_
  refine eX_then ?_
  refine cW_seq ?_
  refine cW_cond (t := decide (x1 < (((l0).length : Int)))) (by kernel_rfl) (fun hb1 => ?_) (fun hb1 => ?_)
  ·have hm := condT hb1 hm
   refine cW_skip ?_
   refine eX_then ?_
   refine cW_seq ?_
   refine cW_block ?_
   refine cW_seq ?_
   refine cW_region ?_
   refine wS_pure 2 [(5, .int .i64 (x1)), (10, .int .i64 (x1))] (by kernel_rfl) ?_
   refine wS_end (by rfl) ?_
   refine eX_then ?_
   refine cW_seq ?_
   refine cW_region ?_
   refine wS_pure 3 [(13, .int .i64 (x1)), (12, .slice A0 (l0).length cap0), (11, .func (.func 41) #[] #[])] (by kernel_rfl) ?_
   obtain ⟨x2, hx2, hm⟩ := bindE hm
   refine wS_idx (d := 14) (T := 26) (A := A0) (n := (l0).length) (cap := cap0) (kd := .i64) (m := x1) (by kernel_rfl) sl26 (F1.is hx2) ?_
   refine wS_loadA (d := 15) (T := 34) (ad := (elA A0 2 (x1) 0)) (vs := [.int .i64 (x2.1), .int .i64 (x2.2)]) (by kernel_rfl) vt34 (fun i u hu => Sl.cells_at F1 hx2 0 hu (by rfl)) ?_
   obtain ⟨y1, hy1, hm⟩ := bindE hm
   refine wS_calls (d := 16) (f := 41) (vs := [.agg #[.int .i64 (x2.1), .int .i64 (x2.2)]]) (by kernel_rfl) ent41 (c_impl_noPoint hy1) ?_
   rintro _ w2 ⟨rfl, hc1⟩
   replace F1 := F1.chg hc1 Dj.nil
   replace hB := hB.inS hc1 inNil
   replace hZ := Nat.le_trans hZ hc1.size
   refine ⟨.bool (y1), rfl, ?_⟩
   refine wS_end (by rfl) ?_
   refine eX_then ?_
   refine cW_cond (t := y1) (by kernel_rfl) (fun hb2 => ?_) (fun hb2 => ?_)
   ·have hm := condT hb2 hm
    refine cW_seq ?_
    refine cW_region ?_
    refine wS_pure 2 [(4, .int .i64 (x1)), (17, .int .i64 (x1))] (by kernel_rfl) ?_
    refine wS_end (by rfl) ?_
    refine eX_then ?_
    refine cW_ret ?_
    refine eX_block_ret ?_
    refine eX_then_ret ?_
    have hq : (some (Ctl.out (Sum.inr x1)) : Option (Ctl (Int) (Sum (Unit) ((Int))))) = some _ := hm
    replace hq := someE hq
    subst hq
    refine eX_outR hx1 (fun hr => ?_)
    subst hr
    refine eX_block_ret ?_
    refine eX_then_ret ?_
    refine eX_then_ret ?_
    have hq : (some x1 : Option ((Int))) = some _ := hm1
    replace hq := someE hq
    subst hq
    refine eX_ret (vs := [.int .i64 (x1)]) [.tmp 4] (by rfl) ⟨by (show lkE _ _ _ = _); kernel_rfl, trivial⟩ ?_
    exact ⟨rfl, hB⟩
   ·have hm := condF hb2 hm
    refine cW_skip ?_
    refine eX_block ?_
    refine eX_then ?_
    refine cW_region ?_
    refine wS_pure 2 [(8, .int .i64 (wr (x1 + 1))), (18, .int .i64 (wr (x1 + 1)))] (by kernel_rfl) ?_
    refine wS_end (by rfl) ?_
    have hq : (some (Ctl.next (wr (x1 + 1))) : Option (Ctl (Int) (Sum (Unit) ((Int))))) = some _ := hm
    replace hq := someE hq
    subst hq
    exact eX_next hx1 (fun hst => ⟨wr (x1 + 1), rfl, Fr.of hst (by kernel_rfl), F1, hB, hZ⟩)
  ·have hm := condF hb1 hm
   refine cW_exit ?_
   refine eX_then_exit ?_
   have hq : (some (Ctl.out (Sum.inl (()))) : Option (Ctl (Int) (Sum (Unit) ((Int))))) = some _ := hm
   replace hq := someE hq
   subst hq
   refine eX_outX hx1 (fun hr2 => ?_)
   replace hr2 := hr2.symm
   subst hr2
   refine eX_block_hit ?_
   exact eX_J (fun hst => ⟨rfl, Fr.of hst (by kernel_rfl), hB, hZ⟩)
 ·rintro a' w3 ⟨hJ, hF2, hB, hZ⟩
  subst hJ
  refine Fr.goX hF2 (by kernel_rfl) ?_
  refine eX_then ?_
  refine cW_seq ?_
  refine cW_region ?_
  refine wS_pure 1 [(4, .int .i64 ((-1)))] (by kernel_rfl) ?_
  refine wS_end (by rfl) ?_
  refine eX_then ?_
  refine cW_ret ?_
  have hq : (some ((-1)) : Option ((Int))) = some _ := hm
  replace hq := someE hq
  subst hq
  refine eX_ret (vs := [.int .i64 ((-1))]) [.tmp 4] (by rfl) ⟨by (show lkE _ _ _ = _); kernel_rfl, trivial⟩ ?_
  exact ⟨rfl, hB⟩

set_option maxRecDepth 100000 in
/-- impl.Point] -/
theorem c_slices_ContainsFunc_impl_Point_impl_Point_impl_noPoint {w0 : World} {l0 : List (Int × Int)} {A0 : Option Addr} {cap0 : Nat} {fp0 : List Nat} {r : (Bool)} (hm : m_slices_ContainsFunc_impl_Point_impl_Point_impl_noPoint l0 = some r) (F0 : Sl 2 encII w0 fp0 A0 l0) :
  Calls Try.prog 40 #[.slice A0 (l0).length cap0, .func (.func 41) #[] #[]] w0 fun e w' => e = .returned (.bool (r)) ∧ Chg [] w0 w' := by
 have L0 := F0.low
 have hB : Chg [] w0 w0 := Chg.refl _ _
 have hZ := Nat.le_refl w0.heap.size
 unfold m_slices_ContainsFunc_impl_Point_impl_Point_impl_noPoint at hm
 refine enterE (N := 9) Try.func40 (by rfl) Try.ntmps40 (by simp) [(0, .slice A0 (l0).length cap0), (1, .func (.func 41) #[] #[])] (by rfl) (by kernel_rfl) (fun a => ?_)
 refine cW_seq ?_
 refine cW_region ?_
 refine wS_pure 1 [(4, .bool (false))] (by kernel_rfl) ?_
 refine wS_end (by rfl) ?_
 refine eX_then ?_
 refine cW_seq ?_
 refine cW_region ?_
 refine wS_pure 2 [(6, .func (.func 41) #[] #[]), (5, .slice A0 (l0).length cap0)] (by kernel_rfl) ?_
 obtain ⟨y1, hy1, hm⟩ := bindE hm
 refine wS_calls (d := 7) (f := 57) (vs := [.slice A0 (l0).length cap0, .func (.func 41) #[] #[]]) (by kernel_rfl) ent57 (c_slices_IndexFunc_impl_Point_impl_Point_impl_noPoint hy1 F0) ?_
 rintro _ w1 ⟨rfl, hc1⟩
 replace F0 := F0.chg hc1 Dj.nil
 replace hB := hB.inS hc1 inNil
 replace hZ := Nat.le_trans hZ hc1.size
 refine ⟨.int .i64 (y1), rfl, ?_⟩
 refine wS_pure 2 [(4, .bool (decide (y1 ≥ 0))), (8, .bool (decide (y1 ≥ 0)))] (by kernel_rfl) ?_
 refine wS_end (by rfl) ?_
 refine eX_then ?_
 refine cW_ret ?_
 have hq : (some (decide (y1 ≥ 0)) : Option ((Bool))) = some _ := hm
 replace hq := someE hq
 subst hq
 refine eX_ret (vs := [.bool (decide (y1 ≥ 0))]) [.tmp 4] (by rfl) ⟨by (show lkE _ _ _ = _); kernel_rfl, trivial⟩ ?_
 exact ⟨rfl, hB⟩

set_option maxRecDepth 100000 in
/-- impl.pinsOk -/
theorem c_impl_pinsOk {w0 : World} {l0 : List (Int × Int)} {A0 : Option Addr} {cap0 : Nat} {fp0 : List Nat} {p1 : Int} {r : (Bool)} (hm : m_impl_pinsOk l0 p1 = some r) (F0 : Sl 2 encII w0 fp0 A0 l0) :
  Calls Try.prog 23 #[.slice A0 (l0).length cap0, .int .i64 (p1)] w0 fun e w' => e = .returned (.bool (r)) ∧ Chg [] w0 w' := by
 have L0 := F0.low
 have hB : Chg [] w0 w0 := Chg.refl _ _
 have hZ := Nat.le_refl w0.heap.size
 unfold m_impl_pinsOk at hm
 refine enterE (N := 27) Try.func23 (by rfl) Try.ntmps23 (by simp) [(0, .slice A0 (l0).length cap0), (1, .int .i64 (p1))] (by rfl) (by kernel_rfl) (fun a => ?_)
 refine cW_seq ?_
 refine cW_region ?_
 refine wS_pure 1 [(4, .bool (false))] (by kernel_rfl) ?_
 refine wS_end (by rfl) ?_
 refine eX_then ?_
 refine cW_seq ?_
 refine cW_region ?_
 refine wS_pure 4 [(8, .bool (decide ((((l0).length : Int)) ≥ 1))), (7, .bool (decide ((((l0).length : Int)) ≥ 1))), (6, .int .i64 (((l0).length : Int))), (5, .slice A0 (l0).length cap0)] (by kernel_rfl) ?_
 refine wS_bool (decide ((((l0).length : Int)) ≥ 1)) (fun hb1 => ?_) (fun hb1 => ?_)
 ·have hm := condT hb1 hm
  rewrite [hb1]
  refine wS_pure 6 [(14, .bool (decide ((((l0).length : Int)) ≤ p1))), (13, .bool (decide ((((l0).length : Int)) ≤ p1))), (12, .bool (decide ((((l0).length : Int)) ≤ p1))), (11, .int .i64 (p1)), (10, .int .i64 (((l0).length : Int))), (9, .slice A0 (l0).length cap0)] (by kernel_rfl) ?_
  refine wS_bool (decide ((((l0).length : Int)) ≤ p1)) (fun hb2 => ?_) (fun hb2 => ?_)
  ·have hm := condT hb2 hm
   rewrite [hb2]
   refine wS_pure 1 [(15, .slice A0 (l0).length cap0)] (by kernel_rfl) ?_
   obtain ⟨y1, hy1, hm⟩ := bindE hm
   refine wS_calls (d := 16) (f := 40) (vs := [.slice A0 (l0).length cap0, .func (.func 41) #[] #[]]) (by kernel_rfl) ent40 (c_slices_ContainsFunc_impl_Point_impl_Point_impl_noPoint hy1 F0) ?_
   rintro _ w1 ⟨rfl, hc1⟩
   replace F0 := F0.chg hc1 Dj.nil
   replace hB := hB.inS hc1 inNil
   replace hZ := Nat.le_trans hZ hc1.size
   refine ⟨.bool (y1), rfl, ?_⟩
   refine wS_pure 3 [(19, .bool (!y1)), (18, .bool (!y1)), (17, .bool (!y1))] (by kernel_rfl) ?_
   refine wS_bool (!y1) (fun hb3 => ?_) (fun hb3 => ?_)
   ·have hm := condT hb3 hm
    rewrite [hb3]
    refine wS_pure 1 [(20, .slice A0 (l0).length cap0)] (by kernel_rfl) ?_
    obtain ⟨y2, hy2, hm⟩ := bindE hm
    refine wS_calls (d := 21) (f := 42) (vs := [.slice A0 (l0).length cap0]) (by kernel_rfl) ent42 (c_impl_sorted hy2 F0) ?_
    rintro _ w2 ⟨A1, cap1, fp1, rfl, F1, G1, hc2⟩
    replace F0 := F0.chg hc2 Dj.nil
    replace hB := hB.inS hc2 inNil
    replace G1 := low_le hZ G1
    replace hZ := Nat.le_trans hZ hc2.size
    refine ⟨.slice A1 (y2).length cap1, rfl, ?_⟩
    refine wS_pure 6 [(4, .bool ((((y2).length : Int)) == (((l0).length : Int)))), (26, .bool ((((y2).length : Int)) == (((l0).length : Int)))), (25, .bool ((((y2).length : Int)) == (((l0).length : Int)))), (24, .int .i64 (((l0).length : Int))), (23, .slice A0 (l0).length cap0), (22, .int .i64 (((y2).length : Int)))] (by kernel_rfl) ?_
    refine wS_end (by rfl) ?_
    refine eX_then ?_
    refine cW_prune [(4, .bool ((((y2).length : Int)) == (((l0).length : Int))))] (by kernel_rfl) (by kernel_rfl) (fun a1 => ?_)
    refine cW_ret ?_
    have hq : (some ((((y2).length : Int)) == (((l0).length : Int))) : Option ((Bool))) = some _ := hm
    replace hq := someE hq
    subst hq
    refine eX_ret (vs := [.bool ((((y2).length : Int)) == (((l0).length : Int)))]) [.tmp 4] (by rfl) ⟨by (show lkE _ _ _ = _); kernel_rfl, trivial⟩ ?_
    exact ⟨rfl, hB⟩
   ·have hm := condF hb3 hm
    rewrite [hb3]
    refine wS_pure 8 [(4, .bool (false)), (26, .bool (false)), (25, undef), (24, undef), (23, undef), (22, undef), (21, undef), (20, undef)] (by kernel_rfl) ?_
    refine wS_end (by rfl) ?_
    refine eX_then ?_
    refine cW_prune [(4, .bool (false))] (by kernel_rfl) (by kernel_rfl) (fun a2 => ?_)
    refine cW_ret ?_
    have hq : (some false : Option ((Bool))) = some _ := hm
    replace hq := someE hq
    subst hq
    refine eX_ret (vs := [.bool (false)]) [.tmp 4] (by rfl) ⟨by (show lkE _ _ _ = _); kernel_rfl, trivial⟩ ?_
    exact ⟨rfl, hB⟩
  ·have hm := condF hb2 hm
   rewrite [hb2]
   refine wS_pure 13 [(4, .bool (false)), (26, .bool (false)), (25, undef), (24, undef), (23, undef), (22, undef), (21, undef), (20, undef), (19, .bool (false)), (18, .bool (false)), (17, undef), (16, undef), (15, undef)] (by kernel_rfl) ?_
   refine wS_end (by rfl) ?_
   refine eX_then ?_
   refine cW_prune [(4, .bool (false))] (by kernel_rfl) (by kernel_rfl) (fun a3 => ?_)
   refine cW_ret ?_
   have hq : (some false : Option ((Bool))) = some _ := hm
   replace hq := someE hq
   subst hq
   refine eX_ret (vs := [.bool (false)]) [.tmp 4] (by rfl) ⟨by (show lkE _ _ _ = _); kernel_rfl, trivial⟩ ?_
   exact ⟨rfl, hB⟩
 ·have hm := condF hb1 hm
  rewrite [hb1]
  refine wS_pure 19 [(4, .bool (false)), (26, .bool (false)), (25, undef), (24, undef), (23, undef), (22, undef), (21, undef), (20, undef), (19, .bool (false)), (18, .bool (false)), (17, undef), (16, undef), (15, undef), (14, .bool (false)), (13, .bool (false)), (12, undef), (11, undef), (10, undef), (9, undef)] (by kernel_rfl) ?_
  refine wS_end (by rfl) ?_
  refine eX_then ?_
  refine cW_prune [(4, .bool (false))] (by kernel_rfl) (by kernel_rfl) (fun a4 => ?_)
  refine cW_ret ?_
  have hq : (some false : Option ((Bool))) = some _ := hm
  replace hq := someE hq
  subst hq
  refine eX_ret (vs := [.bool (false)]) [.tmp 4] (by rfl) ⟨by (show lkE _ _ _ = _); kernel_rfl, trivial⟩ ?_
  exact ⟨rfl, hB⟩

set_option maxRecDepth 100000 in
/-- impl.size -/
theorem c_impl_size {w0 : World} {p0 : Int} {r : (Int)} (hm : m_impl_size p0 = some r)  :
  Calls Try.prog 61 #[.int .i64 (p0)] w0 fun e w' => e = .returned (.int .i64 (r)) ∧ Chg [] w0 w' := by
 have hB : Chg [] w0 w0 := Chg.refl _ _
 have hZ := Nat.le_refl w0.heap.size
 unfold m_impl_size at hm
 refine enterE (N := 7) Try.func61 (by rfl) Try.ntmps61 (by simp) [(0, .int .i64 (p0))] (by rfl) (by kernel_rfl) (fun a => ?_)
 refine cW_seq ?_
 refine cW_region ?_
 refine wS_pure 1 [(2, .int .i64 (0))] (by kernel_rfl) ?_
 refine wS_end (by rfl) ?_
 refine eX_then ?_
 refine cW_seq ?_
 refine cW_region ?_
 refine wS_pure 5 [(2, .int .i64 (if (wr (0 - p0)) > p0 then (wr (0 - p0)) else p0)), (6, .int .i64 (if (wr (0 - p0)) > p0 then (wr (0 - p0)) else p0)), (5, .int .i64 (wr (0 - p0))), (4, .int .i64 (p0)), (3, .int .i64 (p0))] (by kernel_rfl) ?_
 refine wS_end (by rfl) ?_
 refine eX_then ?_
 refine cW_ret ?_
 have hq : (some (if (wr (0 - p0)) > p0 then (wr (0 - p0)) else p0) : Option ((Int))) = some _ := hm
 replace hq := someE hq
 subst hq
 refine eX_ret (vs := [.int .i64 (if (wr (0 - p0)) > p0 then (wr (0 - p0)) else p0)]) [.tmp 2] (by rfl) ⟨by (show lkE _ _ _ = _); kernel_rfl, trivial⟩ ?_
 exact ⟨rfl, hB⟩

set_option maxRecDepth 100000 in
/-- impl.far -/
theorem c_impl_far {w0 : World} {p0_0 : Int} {p0_1 : Int} {p1_0 : Int} {p1_1 : Int} {r : (Int)} (hm : m_impl_far p0_0 p0_1 p1_0 p1_1 = some r)  :
  Calls Try.prog 43 #[.agg #[.int .i64 (p0_0), .int .i64 (p0_1)], .agg #[.int .i64 (p1_0), .int .i64 (p1_1)]] w0 fun e w' => e = .returned (.int .i64 (r)) ∧ Chg [] w0 w' := by
 have hB : Chg [] w0 w0 := Chg.refl _ _
 have hZ := Nat.le_refl w0.heap.size
 unfold m_impl_far at hm
 refine enterE (N := 18) Try.func43 (by rfl) Try.ntmps43 (by simp) [(0, .agg #[.int .i64 (p0_0), .int .i64 (p0_1)]), (1, .agg #[.int .i64 (p1_0), .int .i64 (p1_1)])] (by rfl) (by kernel_rfl) (fun a => ?_)
 refine cW_seq ?_
 refine cW_region ?_
 refine wS_box (d := 2) (T := 34) (x := .agg #[.int .i64 (p0_0), .int .i64 (p0_1)]) (by kernel_rfl) ?_
 intro b1 w1 G1 F1 hc1
 replace F1 : Cl w1 b1 34 [.int .i64 (p0_0), .int .i64 (p0_1)] := F1
 replace hB := hB.inS hc1 inNil
 replace G1 := Nat.le_trans hZ G1
 replace hZ := Nat.le_trans hZ hc1.size
 refine wS_box (d := 3) (T := 34) (x := .agg #[.int .i64 (p1_0), .int .i64 (p1_1)]) (by kernel_rfl) ?_
 intro b2 w2 G2 F2 hc2
 replace F2 : Cl w2 b2 34 [.int .i64 (p1_0), .int .i64 (p1_1)] := F2
 have D1 : Dj [b1] [b2] := Dj.of (lt1 F1.lt) (low1 G2)
 replace F1 := F1.chg hc2 notNil
 replace hB := hB.inS hc2 inNil
 replace G2 := Nat.le_trans hZ G2
 replace hZ := Nat.le_trans hZ hc2.size
 refine wS_pure 1 [(4, .int .i64 (0))] (by kernel_rfl) ?_
 refine wS_end (by rfl) ?_
 refine eX_then ?_
 refine cW_seq ?_
 refine cW_drawnTail [] 11 (by kernel_rfl) (by kernel_rfl) (fun w3 hc3 => ?_)
 replace F1 := F1.chg hc3 notNil
 replace F2 := F2.chg hc3 notNil
 replace hB := hB.inS hc3 inNil
 replace hZ := Nat.le_trans hZ hc3.size
 have hS := Chg.refl [] w3
 have Z1 := F1
 have Z2 := F2
 refine wH_take [0] [0] [(5, .pointer (some ⟨b1, 0, none⟩))] (by kernel_rfl) (qT (qT qZ)) (by kernel_rfl) ?_
 refine wH_load1 (i := 1) (d := 6) (T := 2) (ad := ⟨b1, 0, none⟩) (v := .int .i64 (p0_0)) (by kernel_rfl) (qT (qT qZ)) (by kernel_rfl) (by kernel_rfl) vt2 (fun W hW => (Z1.chg hW notNil).cell 0) ?_
 refine wH_take [2] [2, 1, 0] [(7, .pointer (some ⟨b2, 0, none⟩))] (by kernel_rfl) (qT (qT qZ)) (by kernel_rfl) ?_
 refine wH_load1 (i := 3) (d := 8) (T := 2) (ad := ⟨b2, 0, none⟩) (v := .int .i64 (p1_0)) (by kernel_rfl) (qT (qT qZ)) (by kernel_rfl) (by kernel_rfl) vt2 (fun W hW => (Z2.chg hW notNil).cell 0) ?_
 refine wH_take [4, 6] [6, 4, 3, 2, 1, 0] [(11, .pointer (some ⟨b1, 1, none⟩)), (9, .int .i64 (wr (p0_0 - p1_0)))] (by kernel_rfl) (qT (qT qZ)) (by kernel_rfl) ?_
 refine wH_load1 (i := 7) (d := 12) (T := 2) (ad := ⟨b1, 1, none⟩) (v := .int .i64 (p0_1)) (by kernel_rfl) (qT (qT qZ)) (by kernel_rfl) (by kernel_rfl) vt2 (fun W hW => (Z1.chg hW notNil).cell 1) ?_
 refine wH_take [8] [8, 7, 6, 4, 3, 2, 1, 0] [(13, .pointer (some ⟨b2, 1, none⟩))] (by kernel_rfl) (qT (qT qZ)) (by kernel_rfl) ?_
 refine wH_load1 (i := 9) (d := 14) (T := 2) (ad := ⟨b2, 1, none⟩) (v := .int .i64 (p1_1)) (by kernel_rfl) (qT (qT qZ)) (by kernel_rfl) (by kernel_rfl) vt2 (fun W hW => (Z2.chg hW notNil).cell 1) ?_
 refine wH_take [10] [10, 9, 8, 7, 6, 4, 3, 2, 1, 0] [(15, .int .i64 (wr (p0_1 - p1_1)))] (by kernel_rfl) (qT (qT qZ)) (by kernel_rfl) ?_
 refine wH_all [5] (by rfl) (by kernel_rfl) (by simp) ⟨⟨by kernel_rfl, ?_⟩, trivial⟩
 obtain ⟨y1, hy1, hm⟩ := bindE hm
 refine wS_calls (d := 10) (f := 61) (vs := [.int .i64 (wr (p0_0 - p1_0))]) (by kernel_rfl) ent61 (c_impl_size hy1) ?_
 rintro _ w4 ⟨rfl, hc4⟩
 replace F1 := F1.chg hc4 notNil
 replace F2 := F2.chg hc4 notNil
 replace hB := hB.inS hc4 inNil
 have hSz := hS
 replace hS := hS.inS hc4 inNil
 replace hZ := Nat.le_trans hZ hc4.size
 refine ⟨.int .i64 (y1), rfl, ?_⟩
 refine wS_end (by kernel_rfl) ?_
 refine eX_KH hS ?_
 refine wH_done (by kernel_rfl) ?_
 refine eX_tail ?_
 obtain ⟨y2, hy2, hm⟩ := bindE hm
 refine wS_calls (d := 16) (f := 61) (vs := [.int .i64 (wr (p0_1 - p1_1))]) (by kernel_rfl) ent61 (c_impl_size hy2) ?_
 rintro _ w5 ⟨rfl, hc5⟩
 replace F1 := F1.chg hc5 notNil
 replace F2 := F2.chg hc5 notNil
 replace hB := hB.inS hc5 inNil
 replace hZ := Nat.le_trans hZ hc5.size
 refine ⟨.int .i64 (y2), rfl, ?_⟩
 refine wS_pure 2 [(4, .int .i64 (wr (y1 + y2))), (17, .int .i64 (wr (y1 + y2)))] (by kernel_rfl) ?_
 refine wS_end (by rfl) ?_
 refine eX_then ?_
 refine cW_ret ?_
 have hq : (some (wr (y1 + y2)) : Option ((Int))) = some _ := hm
 replace hq := someE hq
 subst hq
 refine eX_ret (vs := [.int .i64 (wr (y1 + y2))]) [.tmp 4] (by rfl) ⟨by (show lkE _ _ _ = _); kernel_rfl, trivial⟩ ?_
 exact ⟨rfl, hB⟩

set_option maxRecDepth 100000 in
/-- impl.spanning -/
theorem c_impl_spanning {w0 : World} {l0 : List (Int × Int)} {A0 : Option Addr} {cap0 : Nat} {fp0 : List Nat} {r : (List (List (Int))) × (Int)} (hm : m_impl_spanning l0 = some r) (F0 : Sl 2 encII w0 fp0 A0 l0) :
  Calls Try.prog 24 #[.slice A0 (l0).length cap0] w0 fun e w' => ∃ A100 cap100 fp100 fr100, e = .returned (.tuple #[.slice A100 (r.1).length cap100, .int .i64 (r.2)]) ∧ OwR 1 encI 66 2 w' fp100 fr100 A100 cap100 r.1 ∧ (∀ x ∈ fp100 ++ fr100, w0.heap.size ≤ x) ∧ Chg [] w0 w' := by
 have L0 := F0.low
 have hB : Chg [] w0 w0 := Chg.refl _ _
 have hZ := Nat.le_refl w0.heap.size
 unfold m_impl_spanning at hm
 refine enterE (N := 100) Try.func24 (by rfl) Try.ntmps24 (by simp) [(0, .slice A0 (l0).length cap0)] (by rfl) (by kernel_rfl) (fun a => ?_)
 refine cW_seq ?_
 refine cW_region ?_
 refine wS_pure 2 [(3, .int .i64 (0)), (2, .slice none 0 0)] (by kernel_rfl) ?_
 refine wS_end (by rfl) ?_
 refine eX_then ?_
 refine cW_seq ?_
 refine cW_region ?_
 refine wS_rows0 (k := 1) (enc := encI) (d := 11) (t := 40) (T := 66) (T2 := 2) (by kernel_rfl) el40 ?_
 intro b1 w1 G1 F1 hc1
 replace F0 := F0.chg hc1 Dj.nil
 replace hB := hB.inS hc1 inNil
 replace G1 := Nat.le_trans hZ G1
 replace G1 := low1 G1
 replace hZ := Nat.le_trans hZ hc1.size
 replace G1 := lowApp G1 lowNil
 refine wS_pure 2 [(5, .int .i64 (0)), (4, .slice (some ⟨b1, 0, none⟩) (([] : List (List (Int)))).length 0)] (by kernel_rfl) ?_
 refine wS_end (by rfl) ?_
 refine eX_then ?_
 refine cW_seq ?_
 refine cW_region ?_
 refine wS_pure 2 [(13, .int .i64 (((l0).length : Int))), (12, .slice A0 (l0).length cap0)] (by kernel_rfl) ?_
 obtain ⟨_, hk1, hm⟩ := bindE hm
 replace hk1 := mkE hk1
 refine wS_make (enc := encB) (x0 := (false : Bool)) (d := 14) (t := 65) (T := 4) (k1 := .i64) (k2 := .i64) (m := ((l0).length : Int)) (by kernel_rfl) el65 encB_ok (by rfl) hk1.1 hk1.2 ?_
 intro b2 w2 G2 F2 hc2
 have D1 : Dj ([b1] ++ []) [b2] := Dj.of F1.low (low1 G2)
 replace F0 := F0.chg hc2 Dj.nil
 replace F1 := F1.chg hc2 Dj.nil
 replace hB := hB.inS hc2 inNil
 replace G2 := Nat.le_trans hZ G2
 replace G2 := low1 G2
 replace hZ := Nat.le_trans hZ hc2.size
 refine wS_pure 1 [(6, .slice (some ⟨b2, 0, none⟩) (List.replicate (Int.toNat (((l0).length : Int))) ((false : Bool))).length (Int.toNat (((l0).length : Int))))] (by kernel_rfl) ?_
 refine wS_end (by rfl) ?_
 refine eX_then ?_
 refine cW_seq ?_
 refine cW_region ?_
 refine wS_pure 1 [(15, .slice (some ⟨b2, 0, none⟩) (List.replicate (Int.toNat (((l0).length : Int))) ((false : Bool))).length (Int.toNat (((l0).length : Int))))] (by kernel_rfl) ?_
 obtain ⟨x1, hx1, hm⟩ := bindE hm
 refine wS_idx (d := 16) (T := 65) (A := (some ⟨b2, 0, none⟩)) (n := (List.replicate (Int.toNat (((l0).length : Int))) ((false : Bool))).length) (cap := (Int.toNat (((l0).length : Int)))) (kd := .i64) (m := 0) (by kernel_rfl) sl65 ((F2.sl encB_ok).is hx1) ?_
 refine wS_storeEl (x := x1) true (T := 4) (U := 4) (cap := (Int.toNat (((l0).length : Int)))) (j := 0) (A := (some ⟨b2, 0, none⟩)) (v := .bool (true)) (vs := [.bool (true)]) (m := 0) (by kernel_rfl) (by rfl) sz4 (by rfl) encB_ok F2 hx1 (by simp only [List.length_cons, List.length_nil]; omega) (by rfl) ?_
 intro w3 F3 hc3
 replace F0 := F0.chg hc3 (Dj.of L0 G2)
 replace F1 := F1.chg hc3 D1
 replace hB := hB.inS hc3 (inLow G2)
 replace hZ := Nat.le_trans hZ hc3.size
 clear F2
 rewrite [show (List.replicate (Int.toNat (((l0).length : Int))) ((false : Bool))).length = ((List.replicate (Int.toNat (((l0).length : Int))) ((false : Bool))).set (Int.toNat 0) true).length from (List.length_set ..).symm]
 refine wS_end (by rfl) ?_
 refine eX_then ?_
 refine cW_seq ?_
 obtain ⟨r1, hr1, hm⟩ := bindE hm
 have hm1 := hm
 refine cW_cut (fun a' w' => ∃ l1 : List (List (Int)), ∃ A1 : Option Addr, ∃ cap1 : Nat, ∃ fp1 : List Nat, ∃ fr1 : List Nat, ∃ x2 : Int, (l1, x2) = r1 ∧ Fr 100 [(4, .slice A1 (l1).length cap1), (5, .int .i64 (x2))] a' ∧ OwR 1 encI 66 2 w' fp1 fr1 A1 cap1 l1 ∧ (∀ x ∈ (fp1 ++ fr1), w0.heap.size ≤ x) ∧ Chg [] w0 w' ∧ w0.heap.size ≤ w'.heap.size) ?_ ?_
 ·refine cW_block ?_
  refine cW_loop _ (fun (s1 : (List (List (Int))) × Int × (List (Bool))) a' w' => ∃ l2 : List (List (Int)), ∃ A3 : Option Addr, ∃ cap3 : Nat, ∃ fp2 : List Nat, ∃ fr2 : List Nat, ∃ x3 : Int, ∃ l3 : List (Bool), (l2, x3, l3) = s1 ∧ Fr 100 [(0, .slice A0 (l0).length cap0), (4, .slice A3 (l2).length cap3), (5, .int .i64 (x3)), (6, .slice (some ⟨b2, 0, none⟩) (l3).length (Int.toNat (((l0).length : Int))))] a' ∧ Sl 2 encII w' fp0 A0 l0 ∧ Ow 1 encB 4 w' [b2] (some ⟨b2, 0, none⟩) (Int.toNat (((l0).length : Int))) l3 ∧ OwR 1 encI 66 2 w' fp2 fr2 A3 cap3 l2 ∧ (∀ x ∈ (fp2 ++ fr2), w0.heap.size ≤ x) ∧ Dj [b2] (fp2 ++ fr2) ∧ Chg [] w0 w' ∧ w0.heap.size ≤ w'.heap.size) hr1 (fun hst => ⟨([] : List (List (Int))), (some ⟨b1, 0, none⟩), 0, [b1], [], 0, (List.replicate (Int.toNat (((l0).length : Int))) ((false : Bool))).set (Int.toNat 0) true, rfl, Fr.of hst (by kernel_rfl), F0, F3, F1, G1, (D1).symm, hB, hZ⟩) ?_
  rintro _ c1 a' w4 ⟨l2, A3, cap3, fp2, fr2, x3, l3, rfl, hF1, F4, F5, F6, G3, D2, hB, hZ⟩ hx2
  refine Fr.goOn hF1 (by kernel_rfl) ?_
  have hm := hx2
  unfold m_impl_spanning_s9 at hm
  refine cW_seq ?_
  refine cW_seq ?_
  refine cW_region ?_
  refine wS_pure 6 [(22, .bool (decide ((wr ((((l2).length : Int)) + 1)) < (((l0).length : Int))))), (21, .int .i64 (((l0).length : Int))), (20, .slice A0 (l0).length cap0), (19, .int .i64 (wr ((((l2).length : Int)) + 1))), (18, .int .i64 (((l2).length : Int))), (17, .slice A3 (l2).length cap3)] (by kernel_rfl) ?_
  refine wS_end (by rfl) ?_
  refine eX_then ?_
  refine cW_cond (t := decide ((wr ((((l2).length : Int)) + 1)) < (((l0).length : Int)))) (by kernel_rfl) (fun hb1 => ?_) (fun hb1 => ?_)
  ·have hm := condT hb1 hm
   refine cW_skip ?_
   refine eX_then ?_
   refine cW_block ?_
   refine cW_seq ?_
   refine cW_region ?_
   refine wS_pure 2 [(8, .int .i64 ((-1))), (7, .int .i64 ((-1)))] (by kernel_rfl) ?_
   refine wS_end (by rfl) ?_
   refine eX_then ?_
   refine cW_seq ?_
   refine cW_seq ?_
   refine cW_region ?_
   refine wS_pure 3 [(25, .int .i64 (0)), (24, .int .i64 (((l0).length : Int))), (23, .slice A0 (l0).length cap0)] (by kernel_rfl) ?_
   refine wS_end (by rfl) ?_
   refine eX_then ?_
   obtain ⟨r2, hr2, hm⟩ := bindE hm
   have hm2 := hm
   refine cW_cut (fun a' w' => ∃ x4 : Int, ∃ x5 : Int, (x4, x5) = r2 ∧ Fr 100 [(0, .slice A0 (l0).length cap0), (4, .slice A3 (l2).length cap3), (5, .int .i64 (x3)), (6, .slice (some ⟨b2, 0, none⟩) (l3).length (Int.toNat (((l0).length : Int)))), (7, .int .i64 (x4)), (8, .int .i64 (x5))] a' ∧ Sl 2 encII w' fp0 A0 l0 ∧ Ow 1 encB 4 w' [b2] (some ⟨b2, 0, none⟩) (Int.toNat (((l0).length : Int))) l3 ∧ OwR 1 encI 66 2 w' fp2 fr2 A3 cap3 l2 ∧ Chg [] w0 w' ∧ w0.heap.size ≤ w'.heap.size) ?_ ?_
   ·refine cW_block ?_
    refine cW_loop _ (fun (s2 : Int × Int × Int) a' w' => ∃ x6 : Int, ∃ x7 : Int, ∃ x8 : Int, (x6, x7, x8) = s2 ∧ Fr 100 [(0, .slice A0 (l0).length cap0), (4, .slice A3 (l2).length cap3), (5, .int .i64 (x3)), (6, .slice (some ⟨b2, 0, none⟩) (l3).length (Int.toNat (((l0).length : Int)))), (7, .int .i64 (x6)), (8, .int .i64 (x7)), (24, .int .i64 (((l0).length : Int))), (25, .int .i64 (x8))] a' ∧ Sl 2 encII w' fp0 A0 l0 ∧ Ow 1 encB 4 w' [b2] (some ⟨b2, 0, none⟩) (Int.toNat (((l0).length : Int))) l3 ∧ OwR 1 encI 66 2 w' fp2 fr2 A3 cap3 l2 ∧ Chg [] w0 w' ∧ w0.heap.size ≤ w'.heap.size) hr2 (fun hst => ⟨(-1), (-1), 0, rfl, Fr.of hst (by kernel_rfl), F4, F5, F6, hB, hZ⟩) ?_
    rintro _ c2 a' w5 ⟨x6, x7, x8, rfl, hF2, F7, F8, F9, hB, hZ⟩ hx3
    refine Fr.goOn hF2 (by kernel_rfl) ?_
    have hm := hx3
    unfold m_impl_spanning_s12 at hm
    refine cW_seq ?_
    refine cW_region ?_
    refine wS_pure 1 [(26, .bool (decide (x8 < (((l0).length : Int)))))] (by kernel_rfl) ?_
    refine wS_end (by rfl) ?_
    refine eX_then ?_
    refine cW_seq ?_
    refine cW_cond (t := decide (x8 < (((l0).length : Int)))) (by kernel_rfl) (fun hb2 => ?_) (fun hb2 => ?_)
    ·have hm := condT hb2 hm
     refine cW_skip ?_
     refine eX_then ?_
     refine cW_seq ?_
     refine cW_block ?_
     refine cW_seq ?_
     refine cW_region ?_
     refine wS_pure 2 [(9, .int .i64 (x8)), (27, .int .i64 (x8))] (by kernel_rfl) ?_
     refine wS_end (by rfl) ?_
     refine eX_then ?_
     refine cW_seq ?_
     refine cW_region ?_
     refine wS_pure 3 [(10, .int .i64 (wr (x8 + 1))), (29, .int .i64 (wr (x8 + 1))), (28, .int .i64 (x8))] (by kernel_rfl) ?_
     refine wS_end (by rfl) ?_
     refine eX_then ?_
     obtain ⟨r3, hr3, hm⟩ := bindE hm
     have hm3 := hm
     refine cW_cut (fun a' w' => ∃ x9 : Int, ∃ x10 : Int, (x9, x10) = r3 ∧ Fr 100 [(0, .slice A0 (l0).length cap0), (4, .slice A3 (l2).length cap3), (5, .int .i64 (x3)), (6, .slice (some ⟨b2, 0, none⟩) (l3).length (Int.toNat (((l0).length : Int)))), (7, .int .i64 (x9)), (8, .int .i64 (x10)), (24, .int .i64 (((l0).length : Int))), (25, .int .i64 (x8))] a' ∧ Sl 2 encII w' fp0 A0 l0 ∧ Ow 1 encB 4 w' [b2] (some ⟨b2, 0, none⟩) (Int.toNat (((l0).length : Int))) l3 ∧ OwR 1 encI 66 2 w' fp2 fr2 A3 cap3 l2 ∧ Chg [] w0 w' ∧ w0.heap.size ≤ w'.heap.size) ?_ ?_
     ·refine cW_block ?_
      refine cW_loop _ (fun (s3 : Int × Int × Int) a' w' => ∃ x11 : Int, ∃ x12 : Int, ∃ x13 : Int, (x11, x12, x13) = s3 ∧ Fr 100 [(0, .slice A0 (l0).length cap0), (4, .slice A3 (l2).length cap3), (5, .int .i64 (x3)), (6, .slice (some ⟨b2, 0, none⟩) (l3).length (Int.toNat (((l0).length : Int)))), (7, .int .i64 (x11)), (8, .int .i64 (x12)), (9, .int .i64 (x8)), (10, .int .i64 (x13)), (24, .int .i64 (((l0).length : Int))), (25, .int .i64 (x8))] a' ∧ Sl 2 encII w' fp0 A0 l0 ∧ Ow 1 encB 4 w' [b2] (some ⟨b2, 0, none⟩) (Int.toNat (((l0).length : Int))) l3 ∧ OwR 1 encI 66 2 w' fp2 fr2 A3 cap3 l2 ∧ Chg [] w0 w' ∧ w0.heap.size ≤ w'.heap.size) hr3 (fun hst => ⟨x6, x7, wr (x8 + 1), rfl, Fr.of hst (by kernel_rfl), F7, F8, F9, hB, hZ⟩) ?_
      rintro _ c3 a' w6 ⟨x11, x12, x13, rfl, hF3, F10, F11, F12, hB, hZ⟩ hx4
      refine Fr.goOn hF3 (by kernel_rfl) ?_
      have hm := hx4
      unfold m_impl_spanning_s13 at hm
      refine cW_seq ?_
      refine cW_seq ?_
      refine cW_region ?_
      refine wS_pure 4 [(33, .bool (decide (x13 < (((l0).length : Int))))), (32, .int .i64 (((l0).length : Int))), (31, .slice A0 (l0).length cap0), (30, .int .i64 (x13))] (by kernel_rfl) ?_
      refine wS_end (by rfl) ?_
      refine eX_then ?_
      refine cW_cond (t := decide (x13 < (((l0).length : Int)))) (by kernel_rfl) (fun hb3 => ?_) (fun hb3 => ?_)
      ·have hm := condT hb3 hm
       refine cW_skip ?_
       refine eX_then ?_
       refine cW_seq ?_
       refine cW_block ?_
       obtain ⟨s4, hs1, hm⟩ := bindE hm
       refine cW_cut (fun a' w' => ∃ x14 : Int, ∃ x15 : Int, (x14, x15) = s4 ∧ Fr 100 [(0, .slice A0 (l0).length cap0), (4, .slice A3 (l2).length cap3), (5, .int .i64 (x3)), (6, .slice (some ⟨b2, 0, none⟩) (l3).length (Int.toNat (((l0).length : Int)))), (7, .int .i64 (x14)), (8, .int .i64 (x15)), (9, .int .i64 (x8)), (10, .int .i64 (x13)), (24, .int .i64 (((l0).length : Int))), (25, .int .i64 (x8))] a' ∧ Sl 2 encII w' fp0 A0 l0 ∧ Ow 1 encB 4 w' [b2] (some ⟨b2, 0, none⟩) (Int.toNat (((l0).length : Int))) l3 ∧ OwR 1 encI 66 2 w' fp2 fr2 A3 cap3 l2 ∧ Chg [] w0 w' ∧ w0.heap.size ≤ w'.heap.size) ?_ ?_
       ·have hm := hs1
        refine cW_seq ?_
        refine cW_drawnTail [] 30 (by kernel_rfl) (by kernel_rfl) (fun w7 hc4 => ?_)
        replace F10 := F10.chg hc4 Dj.nil
        replace F11 := F11.chg hc4 Dj.nil
        replace F12 := F12.chg hc4 Dj.nil
        replace hB := hB.inS hc4 inNil
        replace hZ := Nat.le_trans hZ hc4.size
        have hS := Chg.refl [] w7
        have Z1 := F10
        have Z2 := F11
        have Z3 := F12
        refine wH_take [0, 1] [1, 0] [(37, .int .i64 (x8)), (36, .slice (some ⟨b2, 0, none⟩) (l3).length (Int.toNat (((l0).length : Int))))] (by kernel_rfl) (qT (qT (qT (qB (qT (qL (qB (qT (qB (qT (qL (qB (qT (qT (qB (qL (qB (qT (qT qZ))))))))))))))))))) (by kernel_rfl) ?_
        obtain ⟨x16, hx5, hm⟩ := bindE hm
        refine wH_idx (i := 2) (d := 38) (T := 65) (A := (some ⟨b2, 0, none⟩)) (n := (l3).length) (cap := (Int.toNat (((l0).length : Int)))) (kd := .i64) (m := x8) (by kernel_rfl) (qT (qT (qT (qB (qT (qL (qB (qT (qB (qT (qL (qB (qT (qT (qB (qL (qB (qT (qT qZ))))))))))))))))))) (by kernel_rfl) (by kernel_rfl) sl65 ((F11.sl encB_ok).is hx5) ?_
        refine wH_load1 (i := 3) (d := 39) (T := 4) (ad := (elA (some ⟨b2, 0, none⟩) 1 (x8) 0)) (v := .bool (x16)) (by kernel_rfl) (qT (qT (qT (qB (qT (qL (qB (qT (qB (qT (qL (qB (qT (qT (qB (qL (qB (qT (qT qZ))))))))))))))))))) (by kernel_rfl) (by kernel_rfl) vt4 (fun W hW => Sl.cell ((Z2.chg hW Dj.nil).sl encB_ok) hx5 0 (by rfl)) ?_
        refine wH_take [4, 5] [5, 4, 3, 2, 1, 0] [(41, .int .i64 (x13)), (40, .slice (some ⟨b2, 0, none⟩) (l3).length (Int.toNat (((l0).length : Int))))] (by kernel_rfl) (qT (qT (qT (qB (qT (qL (qB (qT (qB (qT (qL (qB (qT (qT (qB (qL (qB (qT (qT qZ))))))))))))))))))) (by kernel_rfl) ?_
        obtain ⟨x17, hx6, hm⟩ := bindE hm
        refine wH_idx (i := 6) (d := 42) (T := 65) (A := (some ⟨b2, 0, none⟩)) (n := (l3).length) (cap := (Int.toNat (((l0).length : Int)))) (kd := .i64) (m := x13) (by kernel_rfl) (qT (qT (qT (qB (qT (qL (qB (qT (qB (qT (qL (qB (qT (qT (qB (qL (qB (qT (qT qZ))))))))))))))))))) (by kernel_rfl) (by kernel_rfl) sl65 ((F11.sl encB_ok).is hx6) ?_
        refine wH_load1 (i := 7) (d := 43) (T := 4) (ad := (elA (some ⟨b2, 0, none⟩) 1 (x13) 0)) (v := .bool (x17)) (by kernel_rfl) (qT (qT (qT (qB (qT (qL (qB (qT (qB (qT (qL (qB (qT (qT (qB (qL (qB (qT (qT qZ))))))))))))))))))) (by kernel_rfl) (by kernel_rfl) vt4 (fun W hW => Sl.cell ((Z2.chg hW Dj.nil).sl encB_ok) hx6 0 (by rfl)) ?_
        refine wH_take [8, 9] [9, 8, 7, 6, 5, 4, 3, 2, 1, 0] [(45, .bool (!(x16 == x17))), (44, .bool (!(x16 == x17)))] (by kernel_rfl) (qT (qT (qT (qB (qT (qL (qB (qT (qB (qT (qL (qB (qT (qT (qB (qL (qB (qT (qT qZ))))))))))))))))))) (by kernel_rfl) ?_
        refine wH_bool (!(x16 == x17)) (fun hb4 => ?_) (fun hb4 => ?_)
        ·have hm := condT hb4 hm
         rewrite [hb4]
         refine wH_take [10, 11, 12] [12, 11, 10, 9, 8, 7, 6, 5, 4, 3, 2, 1, 0] [(48, .bool (decide (x11 < 0))), (47, .bool (decide (x11 < 0))), (46, .int .i64 (x11))] (by kernel_rfl) (qT (qT (qT (qB (qT (qL (qB (qT (qB (qT (qL (qB (qT (qT (qB (qL (qB (qT (qT qZ))))))))))))))))))) (by kernel_rfl) ?_
         refine wH_bool (decide (x11 < 0)) (fun hb5 => ?_) (fun hb5 => ?_)
         ·have hm := condT hb5 hm
          rewrite [hb5]
          refine wH_take [13, 14, 15, 16, 17, 18, 19, 20, 21, 22, 23, 24, 25, 26, 27, 28, 29] [29, 28, 27, 26, 25, 24, 23, 22, 21, 20, 19, 18, 17, 16, 15, 14, 13, 12, 11, 10, 9, 8, 7, 6, 5, 4, 3, 2, 1, 0] [(65, undef), (64, undef), (63, undef), (62, undef), (61, undef), (60, undef), (59, undef), (58, undef), (57, undef), (56, undef), (55, undef), (54, undef), (53, undef), (52, undef), (51, undef), (50, undef), (49, undef)] (by kernel_rfl) (qT (qT (qT (qB (qT (qL (qB (qT (qB (qT (qL (qB (qT (qT (qB (qL (qB (qT (qT qZ))))))))))))))))))) (by kernel_rfl) ?_
          refine wH_done (by kernel_rfl) ?_
          refine eX_tail ?_
          refine wS_pure 4 [(69, .bool (true)), (68, .bool (true)), (67, undef), (66, undef)] (by kernel_rfl) ?_
          refine wS_end (by rfl) ?_
          refine eX_then ?_
          refine cW_prune [(0, .slice A0 (l0).length cap0), (4, .slice A3 (l2).length cap3), (5, .int .i64 (x3)), (6, .slice (some ⟨b2, 0, none⟩) (l3).length (Int.toNat (((l0).length : Int)))), (7, .int .i64 (x11)), (8, .int .i64 (x12)), (9, .int .i64 (x8)), (10, .int .i64 (x13)), (24, .int .i64 (((l0).length : Int))), (25, .int .i64 (x8)), (69, .bool (true))] (by kernel_rfl) (by kernel_rfl) (fun a1 => ?_)
          refine cW_cond_t (by kernel_rfl) ?_
          refine cW_region ?_
          refine wS_pure 4 [(8, .int .i64 (x13)), (7, .int .i64 (x8)), (71, .int .i64 (x13)), (70, .int .i64 (x8))] (by kernel_rfl) ?_
          refine wS_end (by rfl) ?_
          have hq : (some ((x8, x13)) : Option (Int × Int)) = some _ := hm
          replace hq := someE hq
          subst hq
          exact eX_J (fun hst => ⟨x8, x13, rfl, Fr.of hst (by kernel_rfl), F10, F11, F12, hB, hZ⟩)
         ·have hm := condF hb5 hm
          rewrite [hb5]
          refine wH_take [13, 14] [14, 13, 12, 11, 10, 9, 8, 7, 6, 5, 4, 3, 2, 1, 0] [(50, .int .i64 (x8)), (49, .slice A0 (l0).length cap0)] (by kernel_rfl) (qT (qT (qT (qB (qT (qL (qB (qT (qB (qT (qL (qB (qT (qT (qB (qL (qB (qT (qT qZ))))))))))))))))))) (by kernel_rfl) ?_
          obtain ⟨x18, hx7, hm⟩ := bindE hm
          refine wH_idx (i := 15) (d := 51) (T := 26) (A := A0) (n := (l0).length) (cap := cap0) (kd := .i64) (m := x8) (by kernel_rfl) (qT (qT (qT (qB (qT (qL (qB (qT (qB (qT (qL (qB (qT (qT (qB (qL (qB (qT (qT qZ))))))))))))))))))) (by kernel_rfl) (by kernel_rfl) sl26 (F10.is hx7) ?_
          refine wH_loadA (i := 16) (d := 52) (T := 34) (ad := (elA A0 2 (x8) 0)) (vs := [.int .i64 (x18.1), .int .i64 (x18.2)]) (by kernel_rfl) (qT (qT (qT (qB (qT (qL (qB (qT (qB (qT (qL (qB (qT (qT (qB (qL (qB (qT (qT qZ))))))))))))))))))) (by kernel_rfl) (by kernel_rfl) vt34 (fun W hW i u hu => Sl.cells_at (Z1.chg hW Dj.nil) hx7 0 hu (by rfl)) ?_
          refine wH_take [17, 18] [18, 17, 16, 15, 14, 13, 12, 11, 10, 9, 8, 7, 6, 5, 4, 3, 2, 1, 0] [(54, .int .i64 (x13)), (53, .slice A0 (l0).length cap0)] (by kernel_rfl) (qT (qT (qT (qB (qT (qL (qB (qT (qB (qT (qL (qB (qT (qT (qB (qL (qB (qT (qT qZ))))))))))))))))))) (by kernel_rfl) ?_
          obtain ⟨x19, hx8, hm⟩ := bindE hm
          refine wH_idx (i := 19) (d := 55) (T := 26) (A := A0) (n := (l0).length) (cap := cap0) (kd := .i64) (m := x13) (by kernel_rfl) (qT (qT (qT (qB (qT (qL (qB (qT (qB (qT (qL (qB (qT (qT (qB (qL (qB (qT (qT qZ))))))))))))))))))) (by kernel_rfl) (by kernel_rfl) sl26 (F10.is hx8) ?_
          refine wH_loadA (i := 20) (d := 56) (T := 34) (ad := (elA A0 2 (x13) 0)) (vs := [.int .i64 (x19.1), .int .i64 (x19.2)]) (by kernel_rfl) (qT (qT (qT (qB (qT (qL (qB (qT (qB (qT (qL (qB (qT (qT (qB (qL (qB (qT (qT qZ))))))))))))))))))) (by kernel_rfl) (by kernel_rfl) vt34 (fun W hW i u hu => Sl.cells_at (Z1.chg hW Dj.nil) hx8 0 hu (by rfl)) ?_
          refine wH_take [22, 23] [23, 22, 20, 19, 18, 17, 16, 15, 14, 13, 12, 11, 10, 9, 8, 7, 6, 5, 4, 3, 2, 1, 0] [(59, .int .i64 (x11)), (58, .slice A0 (l0).length cap0)] (by kernel_rfl) (qT (qT (qT (qB (qT (qL (qB (qT (qB (qT (qL (qB (qT (qT (qB (qL (qB (qT (qT qZ))))))))))))))))))) (by kernel_rfl) ?_
          obtain ⟨x20, hx9, hm⟩ := bindE hm
          refine wH_idx (i := 24) (d := 60) (T := 26) (A := A0) (n := (l0).length) (cap := cap0) (kd := .i64) (m := x11) (by kernel_rfl) (qT (qT (qT (qB (qT (qL (qB (qT (qB (qT (qL (qB (qT (qT (qB (qL (qB (qT (qT qZ))))))))))))))))))) (by kernel_rfl) (by kernel_rfl) sl26 (F10.is hx9) ?_
          refine wH_loadA (i := 25) (d := 61) (T := 34) (ad := (elA A0 2 (x11) 0)) (vs := [.int .i64 (x20.1), .int .i64 (x20.2)]) (by kernel_rfl) (qT (qT (qT (qB (qT (qL (qB (qT (qB (qT (qL (qB (qT (qT (qB (qL (qB (qT (qT qZ))))))))))))))))))) (by kernel_rfl) (by kernel_rfl) vt34 (fun W hW i u hu => Sl.cells_at (Z1.chg hW Dj.nil) hx9 0 hu (by rfl)) ?_
          refine wH_take [26, 27] [27, 26, 25, 24, 23, 22, 20, 19, 18, 17, 16, 15, 14, 13, 12, 11, 10, 9, 8, 7, 6, 5, 4, 3, 2, 1, 0] [(63, .int .i64 (x12)), (62, .slice A0 (l0).length cap0)] (by kernel_rfl) (qT (qT (qT (qB (qT (qL (qB (qT (qB (qT (qL (qB (qT (qT (qB (qL (qB (qT (qT qZ))))))))))))))))))) (by kernel_rfl) ?_
          obtain ⟨x21, hx10, hm⟩ := bindE hm
          refine wH_idx (i := 28) (d := 64) (T := 26) (A := A0) (n := (l0).length) (cap := cap0) (kd := .i64) (m := x12) (by kernel_rfl) (qT (qT (qT (qB (qT (qL (qB (qT (qB (qT (qL (qB (qT (qT (qB (qL (qB (qT (qT qZ))))))))))))))))))) (by kernel_rfl) (by kernel_rfl) sl26 (F10.is hx10) ?_
          refine wH_loadA (i := 29) (d := 65) (T := 34) (ad := (elA A0 2 (x12) 0)) (vs := [.int .i64 (x21.1), .int .i64 (x21.2)]) (by kernel_rfl) (qT (qT (qT (qB (qT (qL (qB (qT (qB (qT (qL (qB (qT (qT (qB (qL (qB (qT (qT qZ))))))))))))))))))) (by kernel_rfl) (by kernel_rfl) vt34 (fun W hW i u hu => Sl.cells_at (Z1.chg hW Dj.nil) hx10 0 hu (by rfl)) ?_
          refine wH_all [21] (by rfl) (by kernel_rfl) (by simp) ⟨⟨by kernel_rfl, ?_⟩, trivial⟩
          obtain ⟨y1, hy1, hm⟩ := bindE hm
          refine wS_calls (d := 57) (f := 43) (vs := [.agg #[.int .i64 (x18.1), .int .i64 (x18.2)], .agg #[.int .i64 (x19.1), .int .i64 (x19.2)]]) (by kernel_rfl) ent43 (c_impl_far hy1) ?_
          rintro _ w8 ⟨rfl, hc5⟩
          replace F10 := F10.chg hc5 Dj.nil
          replace F11 := F11.chg hc5 Dj.nil
          replace F12 := F12.chg hc5 Dj.nil
          replace hB := hB.inS hc5 inNil
          have hSz := hS
          replace hS := hS.inS hc5 inNil
          replace hZ := Nat.le_trans hZ hc5.size
          refine ⟨.int .i64 (y1), rfl, ?_⟩
          refine wS_end (by kernel_rfl) ?_
          refine eX_KH hS ?_
          refine wH_done (by kernel_rfl) ?_
          refine eX_tail ?_
          obtain ⟨y2, hy2, hm⟩ := bindE hm
          refine wS_calls (d := 66) (f := 43) (vs := [.agg #[.int .i64 (x20.1), .int .i64 (x20.2)], .agg #[.int .i64 (x21.1), .int .i64 (x21.2)]]) (by kernel_rfl) ent43 (c_impl_far hy2) ?_
          rintro _ w9 ⟨rfl, hc6⟩
          replace F10 := F10.chg hc6 Dj.nil
          replace F11 := F11.chg hc6 Dj.nil
          replace F12 := F12.chg hc6 Dj.nil
          replace hB := hB.inS hc6 inNil
          replace hZ := Nat.le_trans hZ hc6.size
          refine ⟨.int .i64 (y2), rfl, ?_⟩
          refine wS_pure 3 [(69, .bool (decide (y1 < y2))), (68, .bool (decide (y1 < y2))), (67, .bool (decide (y1 < y2)))] (by kernel_rfl) ?_
          refine wS_end (by rfl) ?_
          refine eX_then ?_
          refine cW_prune [(0, .slice A0 (l0).length cap0), (4, .slice A3 (l2).length cap3), (5, .int .i64 (x3)), (6, .slice (some ⟨b2, 0, none⟩) (l3).length (Int.toNat (((l0).length : Int)))), (7, .int .i64 (x11)), (8, .int .i64 (x12)), (9, .int .i64 (x8)), (10, .int .i64 (x13)), (24, .int .i64 (((l0).length : Int))), (25, .int .i64 (x8)), (69, .bool (decide (y1 < y2)))] (by kernel_rfl) (by kernel_rfl) (fun a2 => ?_)
          refine cW_cond (t := decide (y1 < y2)) (by kernel_rfl) (fun hb6 => ?_) (fun hb6 => ?_)
          ·have hm := condT hb6 hm
           refine cW_region ?_
           refine wS_pure 4 [(8, .int .i64 (x13)), (7, .int .i64 (x8)), (71, .int .i64 (x13)), (70, .int .i64 (x8))] (by kernel_rfl) ?_
           refine wS_end (by rfl) ?_
           have hq : (some ((x8, x13)) : Option (Int × Int)) = some _ := hm
           replace hq := someE hq
           subst hq
           exact eX_J (fun hst => ⟨x8, x13, rfl, Fr.of hst (by kernel_rfl), F10, F11, F12, hB, hZ⟩)
          ·have hm := condF hb6 hm
           refine cW_skip ?_
           have hq : (some ((x11, x12)) : Option (Int × Int)) = some _ := hm
           replace hq := someE hq
           subst hq
           exact eX_J (fun hst => ⟨x11, x12, rfl, Fr.of hst (by kernel_rfl), F10, F11, F12, hB, hZ⟩)
        ·have hm := condF hb4 hm
         rewrite [hb4]
         refine wH_take [10, 11, 12, 13, 14, 15, 16, 17, 18, 19, 20, 21, 22, 23, 24, 25, 26, 27, 28, 29] [29, 28, 27, 26, 25, 24, 23, 22, 21, 20, 19, 18, 17, 16, 15, 14, 13, 12, 11, 10, 9, 8, 7, 6, 5, 4, 3, 2, 1, 0] [(65, undef), (64, undef), (63, undef), (62, undef), (61, undef), (60, undef), (59, undef), (58, undef), (57, undef), (56, undef), (55, undef), (54, undef), (53, undef), (52, undef), (51, undef), (50, undef), (49, undef), (48, undef), (47, undef), (46, undef)] (by kernel_rfl) (qT (qT (qT (qB (qT (qL (qB (qT (qB (qT (qL (qB (qT (qT (qB (qL (qB (qT (qT qZ))))))))))))))))))) (by kernel_rfl) ?_
         refine wH_done (by kernel_rfl) ?_
         refine eX_tail ?_
         refine wS_pure 4 [(69, .bool (false)), (68, undef), (67, undef), (66, undef)] (by kernel_rfl) ?_
         refine wS_end (by rfl) ?_
         refine eX_then ?_
         refine cW_prune [(0, .slice A0 (l0).length cap0), (4, .slice A3 (l2).length cap3), (5, .int .i64 (x3)), (6, .slice (some ⟨b2, 0, none⟩) (l3).length (Int.toNat (((l0).length : Int)))), (7, .int .i64 (x11)), (8, .int .i64 (x12)), (9, .int .i64 (x8)), (10, .int .i64 (x13)), (24, .int .i64 (((l0).length : Int))), (25, .int .i64 (x8)), (69, .bool (false))] (by kernel_rfl) (by kernel_rfl) (fun a3 => ?_)
         refine cW_cond_f (by kernel_rfl) ?_
         refine cW_skip ?_
         have hq : (some ((x11, x12)) : Option (Int × Int)) = some _ := hm
         replace hq := someE hq
         subst hq
         exact eX_J (fun hst => ⟨x11, x12, rfl, Fr.of hst (by kernel_rfl), F10, F11, F12, hB, hZ⟩)
       ·rintro a' w10 ⟨x14, x15, hJ, hF4, F13, F14, F15, hB, hZ⟩
        subst hJ
        refine Fr.goX hF4 (by kernel_rfl) ?_
        refine eX_block ?_
        refine eX_then ?_
        refine cW_region ?_
        refine wS_pure 3 [(10, .int .i64 (wr (x13 + 1))), (35, .int .i64 (wr (x13 + 1))), (34, .int .i64 (x13))] (by kernel_rfl) ?_
        refine wS_end (by rfl) ?_
        have hq : (some (Ctl.next ((x14, x15, wr (x13 + 1)))) : Option (Ctl (Int × Int × Int) (Int × Int))) = some _ := hm
        replace hq := someE hq
        subst hq
        exact eX_next hx4 (fun hst => ⟨x14, x15, wr (x13 + 1), rfl, Fr.of hst (by kernel_rfl), F13, F14, F15, hB, hZ⟩)
      ·have hm := condF hb3 hm
       refine cW_exit ?_
       refine eX_then_exit ?_
       have hq : (some (Ctl.out ((x11, x12))) : Option (Ctl (Int × Int × Int) (Int × Int))) = some _ := hm
       replace hq := someE hq
       subst hq
       refine eX_outX hx4 (fun hr4 => ?_)
       replace hr4 := hr4.symm
       subst hr4
       refine eX_block_hit ?_
       exact eX_J (fun hst => ⟨x11, x12, rfl, Fr.of hst (by kernel_rfl), F10, F11, F12, hB, hZ⟩)
     ·rintro a' w11 ⟨x9, x10, hJ, hF5, F16, F17, F18, hB, hZ⟩
      subst hJ
      refine Fr.goX hF5 (by kernel_rfl) ?_
      refine eX_block ?_
      refine eX_then ?_
      refine cW_region ?_
      refine wS_pure 2 [(25, .int .i64 (wr (x8 + 1))), (72, .int .i64 (wr (x8 + 1)))] (by kernel_rfl) ?_
      refine wS_end (by rfl) ?_
      have hq : (some (Ctl.next ((x9, x10, wr (x8 + 1)))) : Option (Ctl (Int × Int × Int) (Int × Int))) = some _ := hm
      replace hq := someE hq
      subst hq
      exact eX_next hx3 (fun hst => ⟨x9, x10, wr (x8 + 1), rfl, Fr.of hst (by kernel_rfl), F16, F17, F18, hB, hZ⟩)
    ·have hm := condF hb2 hm
     refine cW_exit ?_
     refine eX_then_exit ?_
     have hq : (some (Ctl.out ((x6, x7))) : Option (Ctl (Int × Int × Int) (Int × Int))) = some _ := hm
     replace hq := someE hq
     subst hq
     refine eX_outX hx3 (fun hr5 => ?_)
     replace hr5 := hr5.symm
     subst hr5
     refine eX_block_hit ?_
     exact eX_J (fun hst => ⟨x6, x7, rfl, Fr.of hst (by kernel_rfl), F7, F8, F9, hB, hZ⟩)
   ·rintro a' w12 ⟨x4, x5, hJ, hF6, F19, F20, F21, hB, hZ⟩
    subst hJ
    refine Fr.goX hF6 (by kernel_rfl) ?_
    refine eX_then ?_
    refine cW_seq ?_
    refine cW_region ?_
    refine wS_pure 4 [(76, .int .i64 (x5)), (75, .slice (some ⟨b2, 0, none⟩) (l3).length (Int.toNat (((l0).length : Int)))), (74, .int .i64 (x4)), (73, .slice (some ⟨b2, 0, none⟩) (l3).length (Int.toNat (((l0).length : Int))))] (by kernel_rfl) ?_
    obtain ⟨x22, hx11, hm⟩ := bindE hm
    refine wS_idx (d := 77) (T := 65) (A := (some ⟨b2, 0, none⟩)) (n := (l3).length) (cap := (Int.toNat (((l0).length : Int)))) (kd := .i64) (m := x4) (by kernel_rfl) sl65 ((F20.sl encB_ok).is hx11) ?_
    refine wS_storeEl (x := x22) true (T := 4) (U := 4) (cap := (Int.toNat (((l0).length : Int)))) (j := 0) (A := (some ⟨b2, 0, none⟩)) (v := .bool (true)) (vs := [.bool (true)]) (m := x4) (by kernel_rfl) (by rfl) sz4 (by rfl) encB_ok F20 hx11 (by simp only [List.length_cons, List.length_nil]; omega) (by rfl) ?_
    intro w13 F22 hc7
    replace F19 := F19.chg hc7 (Dj.of L0 G2)
    replace F21 := F21.chg hc7 (D2).symm
    replace hB := hB.inS hc7 (inLow G2)
    replace hZ := Nat.le_trans hZ hc7.size
    clear F20
    rewrite [show (l3).length = (l3.set (Int.toNat x4) true).length from (List.length_set ..).symm]
    obtain ⟨x23, hx12, hm⟩ := bindE hm
    refine wS_idx (d := 78) (T := 65) (A := (some ⟨b2, 0, none⟩)) (n := (l3.set (Int.toNat x4) true).length) (cap := (Int.toNat (((l0).length : Int)))) (kd := .i64) (m := x5) (by kernel_rfl) sl65 ((F22.sl encB_ok).is hx12) ?_
    refine wS_storeEl (x := x23) true (T := 4) (U := 4) (cap := (Int.toNat (((l0).length : Int)))) (j := 0) (A := (some ⟨b2, 0, none⟩)) (v := .bool (true)) (vs := [.bool (true)]) (m := x5) (by kernel_rfl) (by rfl) sz4 (by rfl) encB_ok F22 hx12 (by simp only [List.length_cons, List.length_nil]; omega) (by rfl) ?_
    intro w14 F23 hc8
    replace F19 := F19.chg hc8 (Dj.of L0 G2)
    replace F21 := F21.chg hc8 (D2).symm
    replace hB := hB.inS hc8 (inLow G2)
    replace hZ := Nat.le_trans hZ hc8.size
    clear F22
    rewrite [show (l3.set (Int.toNat x4) true).length = ((l3.set (Int.toNat x4) true).set (Int.toNat x5) true).length from (List.length_set ..).symm]
    refine wS_end (by rfl) ?_
    refine eX_then ?_
    refine cW_drawnTail (fp2 ++ fr2) 18 (by kernel_rfl) (by kernel_rfl) (fun w15 hc9 => ?_)
    replace F19 := F19.chg hc9 Dj.nil
    replace F23 := F23.chg hc9 Dj.nil
    replace F21 := F21.chg hc9 Dj.nil
    replace hB := hB.inS hc9 inNil
    replace hZ := Nat.le_trans hZ hc9.size
    have hS := Chg.refl (fp2 ++ fr2) w15
    have Z4 := F19
    have Z5 := F23
    have Z6 := F21
    refine wH_take [0, 1, 2, 6, 7, 8] [8, 7, 6, 2, 1, 0] [(87, .int .i64 (x4)), (86, .slice A0 (l0).length cap0), (85, .int .i64 (x3)), (81, .int .i64 (x5)), (80, .int .i64 (x4)), (79, .slice A3 (l2).length cap3)] (by kernel_rfl) (qT (qB (qL (qB (qT (qT qZ)))))) (by kernel_rfl) ?_
    obtain ⟨x24, hx13, hm⟩ := bindE hm
    refine wH_idx (i := 9) (d := 88) (T := 26) (A := A0) (n := (l0).length) (cap := cap0) (kd := .i64) (m := x4) (by kernel_rfl) (qT (qB (qL (qB (qT (qT qZ)))))) (by kernel_rfl) (by kernel_rfl) sl26 (F19.is hx13) ?_
    refine wH_loadA (i := 10) (d := 89) (T := 34) (ad := (elA A0 2 (x4) 0)) (vs := [.int .i64 (x24.1), .int .i64 (x24.2)]) (by kernel_rfl) (qT (qB (qL (qB (qT (qT qZ)))))) (by kernel_rfl) (by kernel_rfl) vt34 (fun W hW i u hu => Sl.cells_at (Z4.chg hW (Dj.of L0 G3)) hx13 0 hu (by rfl)) ?_
    refine wH_take [11, 12] [12, 11, 10, 9, 8, 7, 6, 2, 1, 0] [(91, .int .i64 (x5)), (90, .slice A0 (l0).length cap0)] (by kernel_rfl) (qT (qB (qL (qB (qT (qT qZ)))))) (by kernel_rfl) ?_
    obtain ⟨x25, hx14, hm⟩ := bindE hm
    refine wH_idx (i := 13) (d := 92) (T := 26) (A := A0) (n := (l0).length) (cap := cap0) (kd := .i64) (m := x5) (by kernel_rfl) (qT (qB (qL (qB (qT (qT qZ)))))) (by kernel_rfl) (by kernel_rfl) sl26 (F19.is hx14) ?_
    refine wH_loadA (i := 14) (d := 93) (T := 34) (ad := (elA A0 2 (x5) 0)) (vs := [.int .i64 (x25.1), .int .i64 (x25.2)]) (by kernel_rfl) (qT (qB (qL (qB (qT (qT qZ)))))) (by kernel_rfl) (by kernel_rfl) vt34 (fun W hW i u hu => Sl.cells_at (Z4.chg hW (Dj.of L0 G3)) hx14 0 hu (by rfl)) ?_
    refine wH_all [3] (by rfl) (by kernel_rfl) (by simp) ⟨⟨by kernel_rfl, ?_⟩, trivial⟩
    refine wS_bs (enc := encI) ([x4, x5] : List (Int)) [.int .i64 (x4), .int .i64 (x5)] (d := 82) (t := 66) (T := 2) (n := 2) (ps := [(0, .int .i64 (x4)), (1, .int .i64 (x5))]) (by kernel_rfl) el66 encI_ok (by rfl) (by omega) (by omega) (by kernel_rfl) (by rfl) ?_
    intro b3 w16 G4 F24 hc10
    have D3 : Dj [b2] [b3] := Dj.of F23.low (low1 G4)
    have D4 : Dj (fp2 ++ fr2) [b3] := Dj.of F21.low (low1 G4)
    replace F19 := F19.chg hc10 Dj.nil
    replace F23 := F23.chg hc10 Dj.nil
    replace F21 := F21.chg hc10 Dj.nil
    replace hB := hB.inS hc10 inNil
    have hSz := hS
    replace hS := hS.inS hc10 inNil
    have Gz1 := low1 (Nat.le_trans hSz.size G4)
    replace G4 := Nat.le_trans hZ G4
    replace G4 := low1 G4
    replace hZ := Nat.le_trans hZ hc10.size
    refine wS_end (by kernel_rfl) ?_
    refine eX_KH hS ?_
    refine wH_all [4] (by rfl) (by kernel_rfl) (by simp) ⟨⟨by kernel_rfl, ?_⟩, trivial⟩
    refine wS_row1 (k := 1) (enc := encI) (l := ([x4, x5] : List (Int))) (d := 83) (t := 40) (T := 66) (B := (some ⟨b3, 0, none⟩)) (c := 2) (by kernel_rfl) el40 F24 ?_
    intro b4 w17 G5 F25 hc11
    have D5 : Dj [b2] ([b4] ++ [b3]) := Dj.app (Dj.of F23.low (low1 G5)) D3
    have D6 : Dj (fp2 ++ fr2) ([b4] ++ [b3]) := Dj.app (Dj.of F21.low (low1 G5)) D4
    replace F19 := F19.chg hc11 Dj.nil
    replace F23 := F23.chg hc11 Dj.nil
    replace F21 := F21.chg hc11 Dj.nil
    replace F24 := F24.chg hc11 Dj.nil
    replace hB := hB.inS hc11 inNil
    have hSz := hS
    replace hS := hS.inS hc11 inNil
    replace G5 := Nat.le_trans hZ G5
    replace G5 := lowApp (low1 G5) G4
    replace hZ := Nat.le_trans hZ hc11.size
    replace F24 := (F24.sl encI_ok)
    refine wS_end (by kernel_rfl) ?_
    refine eX_KH hS ?_
    refine wH_all [5] (by rfl) (by kernel_rfl) (by simp) ⟨⟨by kernel_rfl, ?_⟩, trivial⟩
    obtain ⟨_, hk2, hm⟩ := bindE hm
    replace hk2 := apE hk2
    refine wS_appendR (k := 1) (enc := encI) (ll := (l2 : List (List (Int)))) (ll2 := (([([x4, x5] : List (Int))] : List (List (Int))) : List (List (Int)))) (d := 84) (t := 40) (T := 66) (A := A3) (A2 := (some ⟨b4, 0, none⟩)) (cap := cap3) (cap2 := 1) (by kernel_rfl) el40 F21 F25 (by rfl) D6 hk2 ?_
    intro w18 fp3 A4 cap4 F26 hc12 hp1
    have G6 := lowApp (low_ap (low_inl G3) hZ hp1) (lowApp (low_inr G3) (low_inr G5))
    have D7 : Dj [b2] (fp3 ++ (fr2 ++ [b3])) := Dj.app (Dj.ap (Dj.inl D2) F23.low hp1) (Dj.app (Dj.inr D2) (Dj.inr D5))
    replace F19 := F19.chg hc12 (Dj.inl (Dj.of L0 G3))
    replace F23 := F23.chg hc12 (Dj.inl D2)
    replace hB := hB.inS hc12 (memS_inl (inLow G3))
    have hSz := hS
    replace hS := hS.trans (hc12.more (fun x hx => List.mem_append_left _ hx))
    replace hZ := Nat.le_trans hZ hc12.size
    refine wS_end (by kernel_rfl) ?_
    refine eX_KH hS ?_
    refine wH_all [15] (by rfl) (by kernel_rfl) (by simp) ⟨⟨by kernel_rfl, ?_⟩, trivial⟩
    obtain ⟨y3, hy3, hm⟩ := bindE hm
    refine wS_calls (d := 94) (f := 43) (vs := [.agg #[.int .i64 (x24.1), .int .i64 (x24.2)], .agg #[.int .i64 (x25.1), .int .i64 (x25.2)]]) (by kernel_rfl) ent43 (c_impl_far hy3) ?_
    rintro _ w19 ⟨rfl, hc13⟩
    replace F19 := F19.chg hc13 Dj.nil
    replace F23 := F23.chg hc13 Dj.nil
    replace F26 := F26.chg hc13 Dj.nil
    replace hB := hB.inS hc13 inNil
    have hSz := hS
    replace hS := hS.inS hc13 inNil
    replace hZ := Nat.le_trans hZ hc13.size
    refine ⟨.int .i64 (y3), rfl, ?_⟩
    refine wS_end (by kernel_rfl) ?_
    refine eX_KH hS ?_
    refine wH_take [16, 17] [17, 16, 15, 5, 4, 3, 14, 13, 12, 11, 10, 9, 8, 7, 6, 2, 1, 0] [(4, .slice A4 (l2 ++ (([([x4, x5] : List (Int))] : List (List (Int))))).length cap4), (95, .int .i64 (wr (x3 + y3)))] (by kernel_rfl) (qT (qB (qL (qB (qT (qT qZ)))))) (by kernel_rfl) ?_
    refine wH_done (by kernel_rfl) ?_
    refine eX_tail ?_
    refine wS_pure 1 [(5, .int .i64 (wr (x3 + y3)))] (by kernel_rfl) ?_
    refine wS_end (by rfl) ?_
    refine eX_block ?_
    have hq : (some (Ctl.next ((l2 ++ (([([x4, x5] : List (Int))] : List (List (Int)))), wr (x3 + y3), (l3.set (Int.toNat x4) true).set (Int.toNat x5) true))) : Option (Ctl ((List (List (Int))) × Int × (List (Bool))) ((List (List (Int))) × Int))) = some _ := hm
    replace hq := someE hq
    subst hq
    exact eX_next hx2 (fun hst => ⟨l2 ++ (([([x4, x5] : List (Int))] : List (List (Int)))), A4, cap4, fp3, (fr2 ++ [b3]), wr (x3 + y3), (l3.set (Int.toNat x4) true).set (Int.toNat x5) true, rfl, Fr.of hst (by kernel_rfl), F19, F23, F26, G6, D7, hB, hZ⟩)
  ·have hm := condF hb1 hm
   refine cW_exit ?_
   refine eX_then_exit ?_
   have hq : (some (Ctl.out ((l2, x3))) : Option (Ctl ((List (List (Int))) × Int × (List (Bool))) ((List (List (Int))) × Int))) = some _ := hm
   replace hq := someE hq
   subst hq
   refine eX_outX hx2 (fun hr6 => ?_)
   replace hr6 := hr6.symm
   subst hr6
   refine eX_block_hit ?_
   exact eX_J (fun hst => ⟨l2, A3, cap3, fp2, fr2, x3, rfl, Fr.of hst (by kernel_rfl), F6, G3, hB, hZ⟩)
 ·rintro a' w20 ⟨l1, A1, cap1, fp1, fr1, x2, hJ, hF7, F27, G7, hB, hZ⟩
  subst hJ
  refine Fr.goX hF7 (by kernel_rfl) ?_
  refine eX_then ?_
  refine cW_seq ?_
  refine cW_region ?_
  refine wS_pure 1 [(96, .slice A1 (l1).length cap1)] (by kernel_rfl) ?_
  obtain ⟨y4, hy4, hm⟩ := bindE hm
  refine wS_calls (d := 97) (f := 44) (vs := [.slice A1 (l1).length cap1, .func (.func 45) #[] #[]]) (by kernel_rfl) ent44 (c_slices_SortFunc_int64_int64_slices_Compare_int64_int64 hy4 F27) ?_
  rintro _ w21 ⟨rfl, F28, hl1, hc14⟩
  replace hB := hB.inS hc14 (inApp (inLow G7) inNil)
  replace hZ := Nat.le_trans hZ hc14.size
  clear F27
  refine ⟨.tuple #[], rfl, ?_⟩
  rewrite [(show (l1).length = (y4).length from hl1.symm)]
  refine wS_end (by rfl) ?_
  refine eX_then ?_
  refine cW_seq ?_
  refine cW_region ?_
  refine wS_pure 4 [(3, .int .i64 (x2)), (2, .slice A1 (y4).length cap1), (99, .int .i64 (x2)), (98, .slice A1 (y4).length cap1)] (by kernel_rfl) ?_
  refine wS_end (by rfl) ?_
  refine eX_then ?_
  refine cW_ret ?_
  have hq : (some ((y4, x2)) : Option ((List (List (Int))) × (Int))) = some _ := hm
  replace hq := someE hq
  subst hq
  refine eX_ret (vs := [.slice A1 (y4).length cap1, .int .i64 (x2)]) [.tmp 2, .tmp 3] (by rfl) ⟨by (show lkE _ _ _ = _); kernel_rfl, ⟨by (show lkE _ _ _ = _); kernel_rfl, trivial⟩⟩ ?_
  exact ⟨A1, cap1, fp1, fr1, rfl, F28, G7, hB⟩

set_option maxRecDepth 100000 in
/-- impl.Point] -/
theorem c_slices_Grow_impl_Point_impl_Point_nil {w0 : World} {p1 : Int} {r : (List (Int × Int))} (hm : m_slices_Grow_impl_Point_impl_Point_nil p1 = some r)  :
  Calls Try.prog 84 #[.slice none 0 0, .int .i64 (p1)] w0 fun e w' => ∃ A100 cap100 fp100, e = .returned (.slice A100 (r).length cap100) ∧ Ow 2 encII 34 w' fp100 A100 cap100 r ∧ (∀ x ∈ fp100, w0.heap.size ≤ x) ∧ Chg [] w0 w' := by
 have hB : Chg [] w0 w0 := Chg.refl _ _
 have hZ := Nat.le_refl w0.heap.size
 unfold m_slices_Grow_impl_Point_impl_Point_nil at hm
 refine enterE (N := 27) Try.func84 (by rfl) Try.ntmps84 (by simp) [(0, .slice none 0 0), (1, .int .i64 (p1))] (by rfl) (by kernel_rfl) (fun a => ?_)
 refine cW_seq ?_
 refine cW_region ?_
 refine wS_pure 1 [(4, .slice none 0 0)] (by kernel_rfl) ?_
 refine wS_end (by rfl) ?_
 refine eX_then ?_
 refine cW_seq ?_
 obtain ⟨s1, hs1, hm⟩ := bindE hm
 refine cW_cut (fun a' w' => () = s1 ∧ Fr 27 [(0, .slice none 0 0), (1, .int .i64 (p1))] a' ∧ Chg [] w0 w' ∧ w0.heap.size ≤ w'.heap.size) ?_ ?_
 ·have hm := hs1
  refine cW_seq ?_
  refine cW_region ?_
  refine wS_pure 2 [(6, .bool (decide (p1 < 0))), (5, .int .i64 (p1))] (by kernel_rfl) ?_
  refine wS_end (by rfl) ?_
  refine eX_then ?_
  refine cW_cond (t := decide (p1 < 0)) (by kernel_rfl) (fun hb1 => ?_) (fun hb1 => ?_)
  ·have hm := condT hb1 hm
   refine cW_region ?_
   exact noneE hm
  ·have hm := condF hb1 hm
   refine cW_skip ?_
   have hq : (some (()) : Option (Unit)) = some _ := hm
   replace hq := someE hq
   subst hq
   exact eX_J (fun hst => ⟨rfl, Fr.of hst (by kernel_rfl), hB, hZ⟩)
 ·rintro a' w1 ⟨hJ, hF1, hB, hZ⟩
  subst hJ
  refine Fr.goX hF1 (by kernel_rfl) ?_
  refine eX_then ?_
  refine cW_seq ?_
  obtain ⟨s2, hs2, hm⟩ := bindE hm
  refine cW_cut (fun a' w' => ∃ l1 : List (Int × Int), ∃ A1 : Option Addr, ∃ cap1 : Nat, ∃ fp1 : List Nat, l1 = s2 ∧ Fr 27 [(0, .slice A1 (l1).length cap1)] a' ∧ Ow 2 encII 34 w' fp1 A1 cap1 l1 ∧ (∀ x ∈ fp1, w0.heap.size ≤ x) ∧ Chg [] w0 w' ∧ w0.heap.size ≤ w'.heap.size) ?_ ?_
  ·have hm := hs2
   refine cW_seq ?_
   refine cW_region ?_
   refine wS_pure 8 [(1, .int .i64 (wr (p1 - (wr (0 - 0))))), (14, .int .i64 (wr (p1 - (wr (0 - 0))))), (13, .int .i64 (wr (0 - 0))), (12, .int .i64 (0)), (11, .slice none 0 0), (10, .int .i64 (0)), (9, .slice none 0 0), (8, .int .i64 (p1))] (by kernel_rfl) ?_
   refine wS_end (by rfl) ?_
   refine eX_then ?_
   refine cW_seq ?_
   refine cW_region ?_
   refine wS_pure 2 [(16, .bool (decide ((wr (p1 - (wr (0 - 0)))) > 0))), (15, .int .i64 (wr (p1 - (wr (0 - 0)))))] (by kernel_rfl) ?_
   refine wS_end (by rfl) ?_
   refine eX_then ?_
   refine cW_cond (t := decide ((wr (p1 - (wr (0 - 0)))) > 0)) (by kernel_rfl) (fun hb2 => ?_) (fun hb2 => ?_)
   ·have hm := condT hb2 hm
    refine cW_region ?_
    refine wS_pure 5 [(21, .int .i64 (wr (p1 - (wr (0 - 0))))), (20, .slice none 0 0), (19, .int .i64 (0)), (18, .slice none 0 0), (17, .slice none 0 0)] (by kernel_rfl) ?_
    obtain ⟨_, hk1, hm⟩ := bindE hm
    replace hk1 := mkE hk1
    obtain ⟨_, hp1, hm⟩ := bindE hm
    replace hp1 := of_decide_eq_true (chkE hp1)
    refine wS_appZ (enc := encII) (x0 := ((0, 0) : Int × Int)) (d := 22) (t := 26) (tn := 3) (T := 34) (kn := .i64) (m := wr (p1 - (wr (0 - 0)))) (by kernel_rfl) el26 ity3 encII_ok (by rfl) hk1.1 hk1.2 hp1 ?_
    intro b1 w2 cap2 G1 F1 hc1
    replace hB := hB.inS hc1 inNil
    replace G1 := Nat.le_trans hZ G1
    replace G1 := low1 G1
    replace hZ := Nat.le_trans hZ hc1.size
    refine wS_pure 2 [(24, .int .i64 (0)), (23, .slice none 0 0)] (by kernel_rfl) ?_
    obtain ⟨y1, hy1, hm⟩ := bindE hm
    refine wS_prefix (k := 2) (enc := encII) (U := 34) (l := List.replicate (Int.toNat (wr (p1 - (wr (0 - 0))))) (((0, 0) : Int × Int))) (d := 25) (T := 26) (A := (some ⟨b1, 0, none⟩)) (cap := cap2) (hi := 0) (by kernel_rfl) sl26 encII_ok F1 F1.cap_le hy1 ?_
    intro hpe F2
    subst hpe
    refine wS_pure 1 [(0, .slice (some ⟨b1, 0, none⟩) ((List.replicate (Int.toNat (wr (p1 - (wr (0 - 0))))) (((0, 0) : Int × Int))).take (Int.toNat 0)).length cap2)] (by kernel_rfl) ?_
    refine wS_end (by rfl) ?_
    have hq : (some ((List.replicate (Int.toNat (wr (p1 - (wr (0 - 0))))) (((0, 0) : Int × Int))).take (Int.toNat 0)) : Option ((List (Int × Int)))) = some _ := hm
    replace hq := someE hq
    subst hq
    exact eX_J (fun hst => ⟨(List.replicate (Int.toNat (wr (p1 - (wr (0 - 0))))) (((0, 0) : Int × Int))).take (Int.toNat 0), (some ⟨b1, 0, none⟩), cap2, [b1], rfl, Fr.of hst (by kernel_rfl), F2, G1, hB, hZ⟩)
   ·have hm := condF hb2 hm
    refine cW_skip ?_
    have hq : (some (([] : List (Int × Int))) : Option ((List (Int × Int)))) = some _ := hm
    replace hq := someE hq
    subst hq
    exact eX_J (fun hst => ⟨[], none, 0, [], rfl, Fr.of hst (by kernel_rfl), Ow.nil _, lowNil, hB, hZ⟩)
  ·rintro a' w3 ⟨l1, A1, cap1, fp1, hJ, hF2, F3, G2, hB, hZ⟩
   subst hJ
   refine Fr.goX hF2 (by kernel_rfl) ?_
   refine eX_then ?_
   refine cW_seq ?_
   refine cW_region ?_
   refine wS_pure 2 [(4, .slice A1 (l1).length cap1), (26, .slice A1 (l1).length cap1)] (by kernel_rfl) ?_
   refine wS_end (by rfl) ?_
   refine eX_then ?_
   refine cW_ret ?_
   have hq : (some l1 : Option ((List (Int × Int)))) = some _ := hm
   replace hq := someE hq
   subst hq
   refine eX_ret (vs := [.slice A1 (l1).length cap1]) [.tmp 4] (by rfl) ⟨by (show lkE _ _ _ = _); kernel_rfl, trivial⟩ ?_
   exact ⟨A1, cap1, fp1, rfl, F3, G2, hB⟩

set_option maxRecDepth 100000 in
/-- impl.Point] -/
theorem c_slices_Concat_impl_Point_impl_Point {w0 : World} {l0 : List (List (Int × Int))} {A0 : Option Addr} {cap0 : Nat} {fp0 : List Nat} {r : (List (Int × Int))} (hm : m_slices_Concat_impl_Point_impl_Point l0 = some r) (F0 : SlR 2 encII w0 fp0 A0 l0) :
  Calls Try.prog 65 #[.slice A0 (l0).length cap0] w0 fun e w' => ∃ A100 cap100 fp100, e = .returned (.slice A100 (r).length cap100) ∧ Ow 2 encII 34 w' fp100 A100 cap100 r ∧ (∀ x ∈ fp100, w0.heap.size ≤ x) ∧ Chg [] w0 w' := by
 have L0 := F0.low
 have hB : Chg [] w0 w0 := Chg.refl _ _
 have hZ := Nat.le_refl w0.heap.size
 unfold m_slices_Concat_impl_Point_impl_Point at hm
 refine enterE (N := 36) Try.func65 (by rfl) Try.ntmps65 (by simp) [(0, .slice A0 (l0).length cap0)] (by rfl) (by kernel_rfl) (fun a => ?_)
 refine cW_seq ?_
 refine cW_region ?_
 refine wS_pure 1 [(2, .slice none 0 0)] (by kernel_rfl) ?_
 refine wS_end (by rfl) ?_
 refine eX_then ?_
 refine cW_seq ?_
 refine cW_region ?_
 refine wS_pure 1 [(3, .int .i64 (0))] (by kernel_rfl) ?_
 refine wS_end (by rfl) ?_
 refine eX_then ?_
 refine cW_seq ?_
 refine cW_seq ?_
 refine cW_region ?_
 refine wS_pure 3 [(11, .int .i64 (0)), (10, .int .i64 (((l0).length : Int))), (9, .slice A0 (l0).length cap0)] (by kernel_rfl) ?_
 refine wS_end (by rfl) ?_
 refine eX_then ?_
 obtain ⟨r1, hr1, hm⟩ := bindE hm
 have hm1 := hm
 refine cW_cut (fun a' w' => ∃ x1 : Int, x1 = r1 ∧ Fr 36 [(0, .slice A0 (l0).length cap0), (3, .int .i64 (x1))] a' ∧ SlR 2 encII w' fp0 A0 l0 ∧ Chg [] w0 w' ∧ w0.heap.size ≤ w'.heap.size) ?_ ?_
 ·refine cW_block ?_
  refine cW_loop _ (fun (s1 : Int × Int) a' w' => ∃ x2 : Int, ∃ x3 : Int, (x2, x3) = s1 ∧ Fr 36 [(0, .slice A0 (l0).length cap0), (3, .int .i64 (x2)), (9, .slice A0 (l0).length cap0), (10, .int .i64 (((l0).length : Int))), (11, .int .i64 (x3))] a' ∧ SlR 2 encII w' fp0 A0 l0 ∧ Chg [] w0 w' ∧ w0.heap.size ≤ w'.heap.size) hr1 (fun hst => ⟨0, 0, rfl, Fr.of hst (by kernel_rfl), F0, hB, hZ⟩) ?_
  rintro _ c1 a' w1 ⟨x2, x3, rfl, hF1, F1, hB, hZ⟩ hx1
  refine Fr.goOn hF1 (by kernel_rfl) ?_
  have hm := hx1
  unfold m_slices_Concat_impl_Point_impl_Point_s1 at hm
  refine cW_seq ?_
  refine cW_region ?_
  refine wS_pure 1 [(12, .bool (decide (x3 < (((l0).length : Int)))))] (by kernel_rfl) ?_
  refine wS_end (by rfl) ?_
  refine eX_then ?_
  refine cW_seq ?_
  refine cW_cond (t := decide (x3 < (((l0).length : Int)))) (by kernel_rfl) (fun hb1 => ?_) (fun hb1 => ?_)
  ·have hm := condT hb1 hm
   refine cW_skip ?_
   refine eX_then ?_
   refine cW_seq ?_
   refine cW_block ?_
   obtain ⟨s2, hs1, hm⟩ := bindE hm
   refine cW_cut (fun a' w' => ∃ x4 : Int, x4 = s2 ∧ Fr 36 [(0, .slice A0 (l0).length cap0), (3, .int .i64 (x4)), (9, .slice A0 (l0).length cap0), (10, .int .i64 (((l0).length : Int))), (11, .int .i64 (x3))] a' ∧ SlR 2 encII w' fp0 A0 l0 ∧ Chg [] w0 w' ∧ w0.heap.size ≤ w'.heap.size) ?_ ?_
   ·have hm := hs1
    refine cW_seq ?_
    refine cW_region ?_
    obtain ⟨x5, hx2, hm⟩ := bindE hm
    refine wS_idx (d := 13) (T := 104) (A := A0) (n := (l0).length) (cap := cap0) (kd := .i64) (m := x3) (by kernel_rfl) sl104 (F1.is hx2) ?_
    obtain ⟨A1, cap1, hc1, F2, K1⟩ := SlR.row F1 hx2
    refine wS_load1 (d := 14) (T := 26) (ad := (elA A0 1 (x3) 0)) (v := .slice A1 (x5).length cap1) (by kernel_rfl) vt26 hc1 ?_
    refine wS_pure 1 [(5, .slice A1 (x5).length cap1)] (by kernel_rfl) ?_
    refine wS_end (by rfl) ?_
    refine eX_then ?_
    refine cW_seq ?_
    refine cW_region ?_
    refine wS_pure 5 [(3, .int .i64 (wr (x2 + (((x5).length : Int))))), (18, .int .i64 (wr (x2 + (((x5).length : Int))))), (17, .int .i64 (((x5).length : Int))), (16, .slice A1 (x5).length cap1), (15, .int .i64 (x2))] (by kernel_rfl) ?_
    refine wS_end (by rfl) ?_
    refine eX_then ?_
    refine cW_seq ?_
    refine cW_region ?_
    refine wS_pure 2 [(20, .bool (decide ((wr (x2 + (((x5).length : Int)))) < 0))), (19, .int .i64 (wr (x2 + (((x5).length : Int)))))] (by kernel_rfl) ?_
    refine wS_end (by rfl) ?_
    refine eX_then ?_
    refine cW_cond (t := decide ((wr (x2 + (((x5).length : Int)))) < 0)) (by kernel_rfl) (fun hb2 => ?_) (fun hb2 => ?_)
    ·have hm := condT hb2 hm
     refine cW_region ?_
     exact noneE hm
    ·have hm := condF hb2 hm
     refine cW_skip ?_
     have hq : (some (wr (x2 + (((x5).length : Int)))) : Option (Int)) = some _ := hm
     replace hq := someE hq
     subst hq
     exact eX_J (fun hst => ⟨wr (x2 + (((x5).length : Int))), rfl, Fr.of hst (by kernel_rfl), F1, hB, hZ⟩)
   ·rintro a' w2 ⟨x4, hJ, hF2, F3, hB, hZ⟩
    subst hJ
    refine Fr.goX hF2 (by kernel_rfl) ?_
    refine eX_block ?_
    refine eX_then ?_
    refine cW_region ?_
    refine wS_pure 2 [(11, .int .i64 (wr (x3 + 1))), (22, .int .i64 (wr (x3 + 1)))] (by kernel_rfl) ?_
    refine wS_end (by rfl) ?_
    have hq : (some (Ctl.next ((x4, wr (x3 + 1)))) : Option (Ctl (Int × Int) (Int))) = some _ := hm
    replace hq := someE hq
    subst hq
    exact eX_next hx1 (fun hst => ⟨x4, wr (x3 + 1), rfl, Fr.of hst (by kernel_rfl), F3, hB, hZ⟩)
  ·have hm := condF hb1 hm
   refine cW_exit ?_
   refine eX_then_exit ?_
   have hq : (some (Ctl.out x2) : Option (Ctl (Int × Int) (Int))) = some _ := hm
   replace hq := someE hq
   subst hq
   refine eX_outX hx1 (fun hr2 => ?_)
   replace hr2 := hr2.symm
   subst hr2
   refine eX_block_hit ?_
   exact eX_J (fun hst => ⟨x2, rfl, Fr.of hst (by kernel_rfl), F1, hB, hZ⟩)
 ·rintro a' w3 ⟨x1, hJ, hF3, F4, hB, hZ⟩
  subst hJ
  refine Fr.goX hF3 (by kernel_rfl) ?_
  refine eX_then ?_
  refine cW_seq ?_
  refine cW_region ?_
  refine wS_pure 1 [(23, .int .i64 (x1))] (by kernel_rfl) ?_
  obtain ⟨y1, hy1, hm⟩ := bindE hm
  refine wS_calls (d := 24) (f := 84) (vs := [.slice none 0 0, .int .i64 (x1)]) (by kernel_rfl) ent84 (c_slices_Grow_impl_Point_impl_Point_nil hy1) ?_
  rintro _ w4 ⟨A3, cap3, fp1, rfl, F5, G1, hc2⟩
  replace F4 := F4.chg hc2 Dj.nil
  replace hB := hB.inS hc2 inNil
  replace G1 := low_le hZ G1
  replace hZ := Nat.le_trans hZ hc2.size
  refine ⟨.slice A3 (y1).length cap3, rfl, ?_⟩
  refine wS_pure 1 [(6, .slice A3 (y1).length cap3)] (by kernel_rfl) ?_
  refine wS_end (by rfl) ?_
  refine eX_then ?_
  refine cW_seq ?_
  refine cW_seq ?_
  refine cW_region ?_
  refine wS_pure 3 [(27, .int .i64 (0)), (26, .int .i64 (((l0).length : Int))), (25, .slice A0 (l0).length cap0)] (by kernel_rfl) ?_
  refine wS_end (by rfl) ?_
  refine eX_then ?_
  obtain ⟨r2, hr3, hm⟩ := bindE hm
  have hm2 := hm
  refine cW_cut (fun a' w' => ∃ l1 : List (Int × Int), ∃ A4 : Option Addr, ∃ cap4 : Nat, ∃ fp2 : List Nat, l1 = r2 ∧ Fr 36 [(6, .slice A4 (l1).length cap4)] a' ∧ Ow 2 encII 34 w' fp2 A4 cap4 l1 ∧ (∀ x ∈ fp2, w0.heap.size ≤ x) ∧ Chg [] w0 w' ∧ w0.heap.size ≤ w'.heap.size) ?_ ?_
  ·refine cW_block ?_
   refine cW_loop _ (fun (s3 : (List (Int × Int)) × Int) a' w' => ∃ l3 : List (Int × Int), ∃ A5 : Option Addr, ∃ cap5 : Nat, ∃ fp3 : List Nat, ∃ x6 : Int, (l3, x6) = s3 ∧ Fr 36 [(6, .slice A5 (l3).length cap5), (25, .slice A0 (l0).length cap0), (26, .int .i64 (((l0).length : Int))), (27, .int .i64 (x6))] a' ∧ SlR 2 encII w' fp0 A0 l0 ∧ Ow 2 encII 34 w' fp3 A5 cap5 l3 ∧ (∀ x ∈ fp3, w0.heap.size ≤ x) ∧ Chg [] w0 w' ∧ w0.heap.size ≤ w'.heap.size) hr3 (fun hst => ⟨y1, A3, cap3, fp1, 0, rfl, Fr.of hst (by kernel_rfl), F4, F5, G1, hB, hZ⟩) ?_
   rintro _ c2 a' w5 ⟨l3, A5, cap5, fp3, x6, rfl, hF4, F6, F7, G2, hB, hZ⟩ hx3
   refine Fr.goOn hF4 (by kernel_rfl) ?_
   have hm := hx3
   unfold m_slices_Concat_impl_Point_impl_Point_s2 at hm
   refine cW_seq ?_
   refine cW_region ?_
   refine wS_pure 1 [(28, .bool (decide (x6 < (((l0).length : Int)))))] (by kernel_rfl) ?_
   refine wS_end (by rfl) ?_
   refine eX_then ?_
   refine cW_seq ?_
   refine cW_cond (t := decide (x6 < (((l0).length : Int)))) (by kernel_rfl) (fun hb3 => ?_) (fun hb3 => ?_)
   ·have hm := condT hb3 hm
    refine cW_skip ?_
    refine eX_then ?_
    refine cW_seq ?_
    refine cW_block ?_
    refine cW_seq ?_
    refine cW_region ?_
    obtain ⟨x7, hx4, hm⟩ := bindE hm
    refine wS_idx (d := 29) (T := 104) (A := A0) (n := (l0).length) (cap := cap0) (kd := .i64) (m := x6) (by kernel_rfl) sl104 (F6.is hx4) ?_
    obtain ⟨A6, cap6, hc3, F8, K2⟩ := SlR.row F6 hx4
    refine wS_load1 (d := 30) (T := 26) (ad := (elA A0 1 (x6) 0)) (v := .slice A6 (x7).length cap6) (by kernel_rfl) vt26 hc3 ?_
    refine wS_pure 1 [(8, .slice A6 (x7).length cap6)] (by kernel_rfl) ?_
    refine wS_end (by rfl) ?_
    refine eX_then ?_
    refine cW_region ?_
    refine wS_pure 2 [(32, .slice A6 (x7).length cap6), (31, .slice A5 (l3).length cap5)] (by kernel_rfl) ?_
    obtain ⟨_, hk1, hm⟩ := bindE hm
    replace hk1 := apE hk1
    refine wS_appendAny (enc := encII) (l := (l3 : List (Int × Int))) (l2 := (x7 : List (Int × Int))) (d := 33) (t := 26) (T := 34) (A := A5) (A2 := A6) (cap := cap5) (cap2 := cap6) (by kernel_rfl) el26 encII_ok F7 F8 hk1 ?_
    intro w6 fp4 A7 cap7 F9 hc4 hp1
    have G3 := low_ap G2 hZ hp1
    replace F6 := F6.chg hc4 (Dj.of L0 G2)
    replace F8 := F8.chg hc4 (Dj.of L0 G2)
    replace hB := hB.inS hc4 (inLow G2)
    replace hZ := Nat.le_trans hZ hc4.size
    refine wS_pure 1 [(6, .slice A7 (l3 ++ x7).length cap7)] (by kernel_rfl) ?_
    refine wS_end (by rfl) ?_
    refine eX_block ?_
    refine eX_then ?_
    refine cW_region ?_
    refine wS_pure 2 [(27, .int .i64 (wr (x6 + 1))), (34, .int .i64 (wr (x6 + 1)))] (by kernel_rfl) ?_
    refine wS_end (by rfl) ?_
    have hq : (some (Ctl.next ((l3 ++ x7, wr (x6 + 1)))) : Option (Ctl ((List (Int × Int)) × Int) ((List (Int × Int))))) = some _ := hm
    replace hq := someE hq
    subst hq
    exact eX_next hx3 (fun hst => ⟨l3 ++ x7, A7, cap7, fp4, wr (x6 + 1), rfl, Fr.of hst (by kernel_rfl), F6, F9, G3, hB, hZ⟩)
   ·have hm := condF hb3 hm
    refine cW_exit ?_
    refine eX_then_exit ?_
    have hq : (some (Ctl.out l3) : Option (Ctl ((List (Int × Int)) × Int) ((List (Int × Int))))) = some _ := hm
    replace hq := someE hq
    subst hq
    refine eX_outX hx3 (fun hr4 => ?_)
    replace hr4 := hr4.symm
    subst hr4
    refine eX_block_hit ?_
    exact eX_J (fun hst => ⟨l3, A5, cap5, fp3, rfl, Fr.of hst (by kernel_rfl), F7, G2, hB, hZ⟩)
  ·rintro a' w7 ⟨l1, A4, cap4, fp2, hJ, hF5, F10, G4, hB, hZ⟩
   subst hJ
   refine Fr.goX hF5 (by kernel_rfl) ?_
   refine eX_then ?_
   refine cW_seq ?_
   refine cW_region ?_
   refine wS_pure 2 [(2, .slice A4 (l1).length cap4), (35, .slice A4 (l1).length cap4)] (by kernel_rfl) ?_
   refine wS_end (by rfl) ?_
   refine eX_then ?_
   refine cW_ret ?_
   have hq : (some l1 : Option ((List (Int × Int)))) = some _ := hm
   replace hq := someE hq
   subst hq
   refine eX_ret (vs := [.slice A4 (l1).length cap4]) [.tmp 2] (by rfl) ⟨by (show lkE _ _ _ = _); kernel_rfl, trivial⟩ ?_
   exact ⟨A4, cap4, fp2, rfl, F10, G4, hB⟩

set_option maxRecDepth 100000 in
/-- impl.side -/
theorem c_impl_side {w0 : World} {p0 : Int} {r : (Int)} (hm : m_impl_side p0 = some r)  :
  Calls Try.prog 85 #[.int .i64 (p0)] w0 fun e w' => e = .returned (.int .i64 (r)) ∧ Chg [] w0 w' := by
 have hB : Chg [] w0 w0 := Chg.refl _ _
 have hZ := Nat.le_refl w0.heap.size
 unfold m_impl_side at hm
 refine enterE (N := 5) Try.func85 (by rfl) Try.ntmps85 (by simp) [(0, .int .i64 (p0))] (by rfl) (by kernel_rfl) (fun a => ?_)
 refine cW_seq ?_
 refine cW_region ?_
 refine wS_pure 1 [(2, .int .i64 (0))] (by kernel_rfl) ?_
 refine wS_end (by rfl) ?_
 refine eX_then ?_
 refine cW_seq ?_
 refine cW_region ?_
 refine wS_pure 1 [(3, .int .i64 (p0))] (by kernel_rfl) ?_
 obtain ⟨y1, hy1, hm⟩ := bindE hm
 refine wS_calls (d := 4) (f := 64) (vs := [.int .i64 (p0), .int .i64 (0)]) (by kernel_rfl) ent64 (c_cmp_Compare_int64 hy1) ?_
 rintro _ w1 ⟨rfl, hc1⟩
 replace hB := hB.inS hc1 inNil
 replace hZ := Nat.le_trans hZ hc1.size
 refine ⟨.int .i64 (y1), rfl, ?_⟩
 refine wS_pure 1 [(2, .int .i64 (y1))] (by kernel_rfl) ?_
 refine wS_end (by rfl) ?_
 refine eX_then ?_
 refine cW_ret ?_
 have hq : (some y1 : Option ((Int))) = some _ := hm
 replace hq := someE hq
 subst hq
 refine eX_ret (vs := [.int .i64 (y1)]) [.tmp 2] (by rfl) ⟨by (show lkE _ _ _ = _); kernel_rfl, trivial⟩ ?_
 exact ⟨rfl, hB⟩

end Go.Proofs.Ytdmokbjaeikfdaa
