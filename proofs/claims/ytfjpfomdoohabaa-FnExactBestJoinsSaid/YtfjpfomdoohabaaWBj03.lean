/- Printed walks: spec.l00In, spec.l01Point, spec.l01Points, spec.l06Pins, spec.l06Leaf, spec.l00Max, spec.l06Far, spec.l00Min, spec.l06Meet, spec.l06Grow, spec.l06Pair, spec.l06Tree, spec.l06Sum, spec.l06Best. -/
import Derived.Test.YtfjpfomdoohabaaProg
import Derived.Test.YtfjpfomdoohabaaWBj02
set_option linter.unusedSimpArgs false
set_option linter.unusedVariables false
namespace Go.Proofs.Ytfjpfomdoohabaa
open Go.RowKit
attribute [local irreducible] wS cW eX wH

theorem ent33 : Ent Try.prog 33 := fun _ => by kernel_rfl
theorem ent51 : Ent Try.prog 51 := fun _ => by kernel_rfl
theorem ent52 : Ent Try.prog 52 := fun _ => by kernel_rfl
theorem ent53 : Ent Try.prog 53 := fun _ => by kernel_rfl
theorem ent54 : Ent Try.prog 54 := fun _ => by kernel_rfl
theorem ent59 : Ent Try.prog 59 := fun _ => by kernel_rfl
theorem ent60 : Ent Try.prog 60 := fun _ => by kernel_rfl
theorem ent61 : Ent Try.prog 61 := fun _ => by kernel_rfl
theorem ent62 : Ent Try.prog 62 := fun _ => by kernel_rfl
theorem ent63 : Ent Try.prog 63 := fun _ => by kernel_rfl
theorem ent64 : Ent Try.prog 64 := fun _ => by kernel_rfl
theorem ent65 : Ent Try.prog 65 := fun _ => by kernel_rfl
theorem ent66 : Ent Try.prog 66 := fun _ => by kernel_rfl
theorem vt32 : VarTy Try.prog 32 1 false := ⟨by kernel_rfl, by kernel_rfl⟩

set_option maxRecDepth 100000 in
/-- spec.l00In -/
theorem c_spec_l00In {w0 : World} {p0 : Int} {p1 : Int} {p2 : Int} {r : (Bool)} (hm : m_spec_l00In p0 p1 p2 = some r)  :
  Calls Try.prog 51 #[.int .i64 (p0), .int .i64 (p1), .int .i64 (p2)] w0 fun e w' => e = .returned (.bool (r)) ∧ Chg [] w0 w' := by
 have hB : Chg [] w0 w0 := Chg.refl _ _
 have hZ := Nat.le_refl w0.heap.size
 unfold m_spec_l00In at hm
 refine enterE (N := 15) Try.func51 (by rfl) Try.ntmps51 (by simp) [(0, .int .i64 (p0)), (1, .int .i64 (p1)), (2, .int .i64 (p2))] (by rfl) (by kernel_rfl) (fun a => ?_)
 refine cW_seq ?_
 refine cW_region ?_
 refine wS_pure 1 [(6, .bool (false))] (by kernel_rfl) ?_
 refine wS_end (by rfl) ?_
 refine eX_then ?_
 refine cW_seq ?_
 refine cW_region ?_
 refine wS_pure 4 [(10, .bool (decide (p0 ≥ p1))), (9, .bool (decide (p0 ≥ p1))), (8, .int .i64 (p1)), (7, .int .i64 (p0))] (by kernel_rfl) ?_
 refine wS_bool (decide (p0 ≥ p1)) (fun hb1 => ?_) (fun hb1 => ?_)
 ·have hm := condT hb1 hm
  rewrite [hb1]
  refine wS_pure 5 [(6, .bool (decide (p0 ≤ p2))), (14, .bool (decide (p0 ≤ p2))), (13, .bool (decide (p0 ≤ p2))), (12, .int .i64 (p2)), (11, .int .i64 (p0))] (by kernel_rfl) ?_
  refine wS_end (by rfl) ?_
  refine eX_then ?_
  refine cW_ret ?_
  have hq : (some (decide (p0 ≤ p2)) : Option ((Bool))) = some _ := hm
  replace hq := someE hq
  subst hq
  refine eX_ret (vs := [.bool (decide (p0 ≤ p2))]) [.tmp 6] (by rfl) ⟨by (show lkE _ _ _ = _); kernel_rfl, trivial⟩ ?_
  exact ⟨rfl, hB⟩
 ·have hm := condF hb1 hm
  rewrite [hb1]
  refine wS_pure 5 [(6, .bool (false)), (14, .bool (false)), (13, undef), (12, undef), (11, undef)] (by kernel_rfl) ?_
  refine wS_end (by rfl) ?_
  refine eX_then ?_
  refine cW_ret ?_
  have hq : (some false : Option ((Bool))) = some _ := hm
  replace hq := someE hq
  subst hq
  refine eX_ret (vs := [.bool (false)]) [.tmp 6] (by rfl) ⟨by (show lkE _ _ _ = _); kernel_rfl, trivial⟩ ?_
  exact ⟨rfl, hB⟩

set_option maxRecDepth 100000 in
/-- spec.l01Point -/
theorem c_spec_l01Point {w0 : World} {p0_0 : Int} {p0_1 : Int} {r : (Bool)} (hm : m_spec_l01Point p0_0 p0_1 = some r)  :
  Calls Try.prog 59 #[.agg #[.int .i64 (p0_0), .int .i64 (p0_1)]] w0 fun e w' => e = .returned (.bool (r)) ∧ Chg [] w0 w' := by
 have hB : Chg [] w0 w0 := Chg.refl _ _
 have hZ := Nat.le_refl w0.heap.size
 unfold m_spec_l01Point at hm
 refine enterE (N := 11) Try.func59 (by rfl) Try.ntmps59 (by simp) [(0, .agg #[.int .i64 (p0_0), .int .i64 (p0_1)])] (by rfl) (by kernel_rfl) (fun a => ?_)
 refine cW_seq ?_
 refine cW_region ?_
 refine wS_box (d := 1) (T := 49) (x := .agg #[.int .i64 (p0_0), .int .i64 (p0_1)]) (by kernel_rfl) ?_
 intro b1 w1 G1 F1 hc1
 replace F1 : Cl w1 b1 49 [.int .i64 (p0_0), .int .i64 (p0_1)] := F1
 replace hB := hB.inS hc1 inNil
 replace G1 := Nat.le_trans hZ G1
 replace hZ := Nat.le_trans hZ hc1.size
 refine wS_pure 1 [(2, .bool (false))] (by kernel_rfl) ?_
 refine wS_end (by rfl) ?_
 refine eX_then ?_
 refine cW_seq ?_
 refine cW_region ?_
 refine wS_pure 1 [(3, .pointer (some ⟨b1, 0, none⟩))] (by kernel_rfl) ?_
 refine wS_load1 (d := 4) (T := 2) (ad := ⟨b1, 0, none⟩) (v := .int .i64 (p0_0)) (by kernel_rfl) vt2 ((F1).cell 0) ?_
 obtain ⟨y1, hy1, hm⟩ := bindE hm
 refine wS_calls (d := 5) (f := 51) (vs := [.int .i64 (p0_0), .int .i64 (0), .int .i64 (99)]) (by kernel_rfl) ent51 (c_spec_l00In hy1) ?_
 rintro _ w2 ⟨rfl, hc2⟩
 replace F1 := F1.chg hc2 notNil
 replace hB := hB.inS hc2 inNil
 replace hZ := Nat.le_trans hZ hc2.size
 refine ⟨.bool (y1), rfl, ?_⟩
 refine wS_pure 1 [(6, .bool (y1))] (by kernel_rfl) ?_
 refine wS_bool y1 (fun hb1 => ?_) (fun hb1 => ?_)
 ·have hm := condT hb1 hm
  rewrite [hb1]
  refine wS_pure 1 [(7, .pointer (some ⟨b1, 1, none⟩))] (by kernel_rfl) ?_
  refine wS_load1 (d := 8) (T := 2) (ad := ⟨b1, 1, none⟩) (v := .int .i64 (p0_1)) (by kernel_rfl) vt2 ((F1).cell 1) ?_
  obtain ⟨y2, hy2, hm⟩ := bindE hm
  refine wS_calls (d := 9) (f := 51) (vs := [.int .i64 (p0_1), .int .i64 (0), .int .i64 (99)]) (by kernel_rfl) ent51 (c_spec_l00In hy2) ?_
  rintro _ w3 ⟨rfl, hc3⟩
  replace F1 := F1.chg hc3 notNil
  replace hB := hB.inS hc3 inNil
  replace hZ := Nat.le_trans hZ hc3.size
  refine ⟨.bool (y2), rfl, ?_⟩
  refine wS_pure 2 [(2, .bool (y2)), (10, .bool (y2))] (by kernel_rfl) ?_
  refine wS_end (by rfl) ?_
  refine eX_then ?_
  refine cW_ret ?_
  have hq : (some y2 : Option ((Bool))) = some _ := hm
  replace hq := someE hq
  subst hq
  refine eX_ret (vs := [.bool (y2)]) [.tmp 2] (by rfl) ⟨by (show lkE _ _ _ = _); kernel_rfl, trivial⟩ ?_
  exact ⟨rfl, hB⟩
 ·have hm := condF hb1 hm
  rewrite [hb1]
  refine wS_pure 5 [(2, .bool (false)), (10, .bool (false)), (9, undef), (8, undef), (7, undef)] (by kernel_rfl) ?_
  refine wS_end (by rfl) ?_
  refine eX_then ?_
  refine cW_ret ?_
  have hq : (some false : Option ((Bool))) = some _ := hm
  replace hq := someE hq
  subst hq
  refine eX_ret (vs := [.bool (false)]) [.tmp 2] (by rfl) ⟨by (show lkE _ _ _ = _); kernel_rfl, trivial⟩ ?_
  exact ⟨rfl, hB⟩

set_option maxRecDepth 100000 in
/-- spec.l01Points -/
theorem c_spec_l01Points {w0 : World} {l0 : List (Int × Int)} {A0 : Option Addr} {cap0 : Nat} {fp0 : List Nat} {r : (Bool)} (hm : m_spec_l01Points l0 = some r) (F0 : Sl 2 encII w0 fp0 A0 l0) :
  Calls Try.prog 52 #[.slice A0 (l0).length cap0] w0 fun e w' => e = .returned (.bool (r)) ∧ Chg [] w0 w' := by
 have L0 := F0.low
 have hB : Chg [] w0 w0 := Chg.refl _ _
 have hZ := Nat.le_refl w0.heap.size
 unfold m_spec_l01Points at hm
 refine enterE (N := 19) Try.func52 (by rfl) Try.ntmps52 (by simp) [(0, .slice A0 (l0).length cap0)] (by rfl) (by kernel_rfl) (fun a => ?_)
 refine cW_seq ?_
 refine cW_region ?_
 refine wS_pure 1 [(2, .bool (false))] (by kernel_rfl) ?_
 refine wS_end (by rfl) ?_
 refine eX_then ?_
 refine cW_seq ?_
 refine cW_seq ?_
 refine cW_region ?_
 refine wS_pure 1 [(3, .int .i64 (0))] (by kernel_rfl) ?_
 refine wS_end (by rfl) ?_
 refine eX_then ?_
 obtain ⟨r1, hr1, hm⟩ := bindE hm
 have hm1 := hm
 refine cW_cut (fun a' w' => Sum.inl (()) = r1 ∧ Fr 19 [(0, .slice A0 (l0).length cap0)] a' ∧ Sl 2 encII w' fp0 A0 l0 ∧ Chg [] w0 w' ∧ w0.heap.size ≤ w'.heap.size) ?_ ?_
 ·refine cW_block ?_
  refine cW_loop _ (fun (s1 : Int) a' w' => ∃ x1 : Int, x1 = s1 ∧ Fr 19 [(0, .slice A0 (l0).length cap0), (3, .int .i64 (x1))] a' ∧ Sl 2 encII w' fp0 A0 l0 ∧ Chg [] w0 w' ∧ w0.heap.size ≤ w'.heap.size) hr1 (fun hst => ⟨0, rfl, Fr.of hst (by kernel_rfl), F0, hB, hZ⟩) ?_
  rintro _ c1 a' w1 ⟨x1, rfl, hF1, F1, hB, hZ⟩ hx1
  refine Fr.goOn hF1 (by kernel_rfl) ?_
  have hm := hx1
  unfold m_spec_l01Points_s1 at hm
  refine cW_seq ?_
  refine cW_seq ?_
  refine cW_region ?_
  refine wS_pure 4 [(7, .bool (decide (x1 < (((l0).length : Int))))), (6, .int .i64 (((l0).length : Int))), (5, .slice A0 (l0).length cap0), (4, .int .i64 (x1))] (by kernel_rfl) ?_
  refine wS_end (by rfl) ?_
  refine eX_then ?_
  refine cW_cond (t := decide (x1 < (((l0).length : Int)))) (by kernel_rfl) (fun hb1 => ?_) (fun hb1 => ?_)
  ·have hm := condT hb1 hm
   refine cW_skip ?_
   refine eX_then ?_
   refine cW_seq ?_
   refine cW_block ?_
   refine cW_seq ?_
   refine cW_region ?_
   refine wS_pure 2 [(11, .int .i64 (x1)), (10, .slice A0 (l0).length cap0)] (by kernel_rfl) ?_
   obtain ⟨x2, hx2, hm⟩ := bindE hm
   refine wS_idx (d := 12) (T := 24) (A := A0) (n := (l0).length) (cap := cap0) (kd := .i64) (m := x1) (by kernel_rfl) sl24 (F1.is hx2) ?_
   refine wS_loadA (d := 13) (T := 49) (ad := (elA A0 2 (x1) 0)) (vs := [.int .i64 (x2.1), .int .i64 (x2.2)]) (by kernel_rfl) vt49 (fun i u hu => Sl.cells_at F1 hx2 0 hu (by rfl)) ?_
   obtain ⟨y1, hy1, hm⟩ := bindE hm
   refine wS_calls (d := 14) (f := 59) (vs := [.agg #[.int .i64 (x2.1), .int .i64 (x2.2)]]) (by kernel_rfl) ent59 (c_spec_l01Point hy1) ?_
   rintro _ w2 ⟨rfl, hc1⟩
   replace F1 := F1.chg hc1 Dj.nil
   replace hB := hB.inS hc1 inNil
   replace hZ := Nat.le_trans hZ hc1.size
   refine ⟨.bool (y1), rfl, ?_⟩
   refine wS_pure 1 [(15, .bool (!y1))] (by kernel_rfl) ?_
   refine wS_end (by rfl) ?_
   refine eX_then ?_
   refine cW_cond (t := !y1) (by kernel_rfl) (fun hb2 => ?_) (fun hb2 => ?_)
   ·have hm := condT hb2 hm
    refine cW_seq ?_
    refine cW_region ?_
    refine wS_pure 1 [(2, .bool (false))] (by kernel_rfl) ?_
    refine wS_end (by rfl) ?_
    refine eX_then ?_
    refine cW_ret ?_
    refine eX_block_ret ?_
    refine eX_then_ret ?_
    have hq : (some (Ctl.out (Sum.inr false)) : Option (Ctl (Int) (Sum (Unit) ((Bool))))) = some _ := hm
    replace hq := someE hq
    subst hq
    refine eX_outR hx1 (fun hr => ?_)
    subst hr
    refine eX_block_ret ?_
    refine eX_then_ret ?_
    refine eX_then_ret ?_
    have hq : (some false : Option ((Bool))) = some _ := hm1
    replace hq := someE hq
    subst hq
    refine eX_ret (vs := [.bool (false)]) [.tmp 2] (by rfl) ⟨by (show lkE _ _ _ = _); kernel_rfl, trivial⟩ ?_
    exact ⟨rfl, hB⟩
   ·have hm := condF hb2 hm
    refine cW_skip ?_
    refine eX_block ?_
    refine eX_then ?_
    refine cW_region ?_
    refine wS_pure 3 [(3, .int .i64 (wr (x1 + 1))), (9, .int .i64 (wr (x1 + 1))), (8, .int .i64 (x1))] (by kernel_rfl) ?_
    refine wS_end (by rfl) ?_
    have hq : (some (Ctl.next (wr (x1 + 1))) : Option (Ctl (Int) (Sum (Unit) ((Bool))))) = some _ := hm
    replace hq := someE hq
    subst hq
    exact eX_next hx1 (fun hst => ⟨wr (x1 + 1), rfl, Fr.of hst (by kernel_rfl), F1, hB, hZ⟩)
  ·have hm := condF hb1 hm
   refine cW_exit ?_
   refine eX_then_exit ?_
   have hq : (some (Ctl.out (Sum.inl (()))) : Option (Ctl (Int) (Sum (Unit) ((Bool))))) = some _ := hm
   replace hq := someE hq
   subst hq
   refine eX_outX hx1 (fun hr2 => ?_)
   replace hr2 := hr2.symm
   subst hr2
   refine eX_block_hit ?_
   exact eX_J (fun hst => ⟨rfl, Fr.of hst (by kernel_rfl), F1, hB, hZ⟩)
 ·rintro a' w3 ⟨hJ, hF2, F2, hB, hZ⟩
  subst hJ
  refine Fr.goX hF2 (by kernel_rfl) ?_
  refine eX_then ?_
  refine cW_seq ?_
  refine cW_region ?_
  refine wS_pure 4 [(2, .bool (decide ((((l0).length : Int)) ≤ 24))), (18, .bool (decide ((((l0).length : Int)) ≤ 24))), (17, .int .i64 (((l0).length : Int))), (16, .slice A0 (l0).length cap0)] (by kernel_rfl) ?_
  refine wS_end (by rfl) ?_
  refine eX_then ?_
  refine cW_ret ?_
  have hq : (some (decide ((((l0).length : Int)) ≤ 24)) : Option ((Bool))) = some _ := hm
  replace hq := someE hq
  subst hq
  refine eX_ret (vs := [.bool (decide ((((l0).length : Int)) ≤ 24))]) [.tmp 2] (by rfl) ⟨by (show lkE _ _ _ = _); kernel_rfl, trivial⟩ ?_
  exact ⟨rfl, hB⟩

set_option maxRecDepth 100000 in
/-- spec.l06Pins -/
theorem c_spec_l06Pins {w0 : World} {l0 : List (Int × Int)} {A0 : Option Addr} {cap0 : Nat} {fp0 : List Nat} {r : (Bool)} (hm : m_spec_l06Pins l0 = some r) (F0 : Sl 2 encII w0 fp0 A0 l0) :
  Calls Try.prog 32 #[.slice A0 (l0).length cap0] w0 fun e w' => e = .returned (.bool (r)) ∧ Chg [] w0 w' := by
 have L0 := F0.low
 have hB : Chg [] w0 w0 := Chg.refl _ _
 have hZ := Nat.le_refl w0.heap.size
 unfold m_spec_l06Pins at hm
 refine enterE (N := 10) Try.func32 (by rfl) Try.ntmps32 (by simp) [(0, .slice A0 (l0).length cap0)] (by rfl) (by kernel_rfl) (fun a => ?_)
 refine cW_seq ?_
 refine cW_region ?_
 refine wS_pure 1 [(2, .bool (false))] (by kernel_rfl) ?_
 refine wS_end (by rfl) ?_
 refine eX_then ?_
 refine cW_seq ?_
 refine cW_region ?_
 refine wS_pure 2 [(4, .int .i64 (((l0).length : Int))), (3, .slice A0 (l0).length cap0)] (by kernel_rfl) ?_
 obtain ⟨y1, hy1, hm⟩ := bindE hm
 refine wS_calls (d := 5) (f := 51) (vs := [.int .i64 (((l0).length : Int)), .int .i64 (2), .int .i64 (12)]) (by kernel_rfl) ent51 (c_spec_l00In hy1) ?_
 rintro _ w1 ⟨rfl, hc1⟩
 replace F0 := F0.chg hc1 Dj.nil
 replace hB := hB.inS hc1 inNil
 replace hZ := Nat.le_trans hZ hc1.size
 refine ⟨.bool (y1), rfl, ?_⟩
 refine wS_pure 1 [(6, .bool (y1))] (by kernel_rfl) ?_
 refine wS_bool y1 (fun hb1 => ?_) (fun hb1 => ?_)
 ·have hm := condT hb1 hm
  rewrite [hb1]
  refine wS_pure 1 [(7, .slice A0 (l0).length cap0)] (by kernel_rfl) ?_
  obtain ⟨y2, hy2, hm⟩ := bindE hm
  refine wS_calls (d := 8) (f := 52) (vs := [.slice A0 (l0).length cap0]) (by kernel_rfl) ent52 (c_spec_l01Points hy2 F0) ?_
  rintro _ w2 ⟨rfl, hc2⟩
  replace F0 := F0.chg hc2 Dj.nil
  replace hB := hB.inS hc2 inNil
  replace hZ := Nat.le_trans hZ hc2.size
  refine ⟨.bool (y2), rfl, ?_⟩
  refine wS_pure 2 [(2, .bool (y2)), (9, .bool (y2))] (by kernel_rfl) ?_
  refine wS_end (by rfl) ?_
  refine eX_then ?_
  refine cW_ret ?_
  have hq : (some y2 : Option ((Bool))) = some _ := hm
  replace hq := someE hq
  subst hq
  refine eX_ret (vs := [.bool (y2)]) [.tmp 2] (by rfl) ⟨by (show lkE _ _ _ = _); kernel_rfl, trivial⟩ ?_
  exact ⟨rfl, hB⟩
 ·have hm := condF hb1 hm
  rewrite [hb1]
  refine wS_pure 4 [(2, .bool (false)), (9, .bool (false)), (8, undef), (7, undef)] (by kernel_rfl) ?_
  refine wS_end (by rfl) ?_
  refine eX_then ?_
  refine cW_ret ?_
  have hq : (some false : Option ((Bool))) = some _ := hm
  replace hq := someE hq
  subst hq
  refine eX_ret (vs := [.bool (false)]) [.tmp 2] (by rfl) ⟨by (show lkE _ _ _ = _); kernel_rfl, trivial⟩ ?_
  exact ⟨rfl, hB⟩

set_option maxRecDepth 100000 in
/-- spec.l06Leaf -/
theorem c_spec_l06Leaf {w0 : World} {p0_0 : Int} {p0_1 : Int} {r : (Int × Int × Int × Int)} (hm : m_spec_l06Leaf p0_0 p0_1 = some r)  :
  Calls Try.prog 60 #[.agg #[.int .i64 (p0_0), .int .i64 (p0_1)]] w0 fun e w' => e = .returned (.agg #[.int .i64 (r.1), .int .i64 (r.2.1), .int .i64 (r.2.2.1), .int .i64 (r.2.2.2)]) ∧ Chg [] w0 w' := by
 have hB : Chg [] w0 w0 := Chg.refl _ _
 have hZ := Nat.le_refl w0.heap.size
 unfold m_spec_l06Leaf at hm
 refine enterE (N := 22) Try.func60 (by rfl) Try.ntmps60 (by simp) [(0, .agg #[.int .i64 (p0_0), .int .i64 (p0_1)])] (by rfl) (by kernel_rfl) (fun a => ?_)
 refine cW_seq ?_
 refine cW_region ?_
 refine wS_box (d := 1) (T := 49) (x := .agg #[.int .i64 (p0_0), .int .i64 (p0_1)]) (by kernel_rfl) ?_
 intro b1 w1 G1 F1 hc1
 replace F1 : Cl w1 b1 49 [.int .i64 (p0_0), .int .i64 (p0_1)] := F1
 replace hB := hB.inS hc1 inNil
 replace G1 := Nat.le_trans hZ G1
 replace hZ := Nat.le_trans hZ hc1.size
 refine wS_alloc (d := 2) (T := 55) (z := .agg #[.int .i64 (0), .int .i64 (0), .int .i64 (0), .int .i64 (0)]) (by kernel_rfl) (by kernel_rfl) ?_
 intro b2 w2 G2 F2 hc2
 replace F2 : Cl w2 b2 55 [.int .i64 (0), .int .i64 (0), .int .i64 (0), .int .i64 (0)] := F2
 have D1 : Dj [b1] [b2] := Dj.of (lt1 F1.lt) (low1 G2)
 replace F1 := F1.chg hc2 notNil
 replace hB := hB.inS hc2 inNil
 replace G2 := Nat.le_trans hZ G2
 replace hZ := Nat.le_trans hZ hc2.size
 refine wS_end (by rfl) ?_
 refine eX_then ?_
 refine cW_seq ?_
 refine cW_region ?_
 refine wS_pure 1 [(5, .pointer (some ⟨b1, 0, none⟩))] (by kernel_rfl) ?_
 refine wS_load1 (d := 6) (T := 2) (ad := ⟨b1, 0, none⟩) (v := .int .i64 (p0_0)) (by kernel_rfl) vt2 ((F1).cell 0) ?_
 refine wS_pure 1 [(7, .pointer (some ⟨b1, 1, none⟩))] (by kernel_rfl) ?_
 refine wS_load1 (d := 8) (T := 2) (ad := ⟨b1, 1, none⟩) (v := .int .i64 (p0_1)) (by kernel_rfl) vt2 ((F1).cell 1) ?_
 refine wS_pure 3 [(3, .int .i64 (wr ((wr (p0_0 + p0_1)) * 4096))), (10, .int .i64 (wr ((wr (p0_0 + p0_1)) * 4096))), (9, .int .i64 (wr (p0_0 + p0_1)))] (by kernel_rfl) ?_
 refine wS_end (by rfl) ?_
 refine eX_then ?_
 refine cW_seq ?_
 refine cW_region ?_
 refine wS_pure 1 [(11, .pointer (some ⟨b1, 0, none⟩))] (by kernel_rfl) ?_
 refine wS_load1 (d := 12) (T := 2) (ad := ⟨b1, 0, none⟩) (v := .int .i64 (p0_0)) (by kernel_rfl) vt2 ((F1).cell 0) ?_
 refine wS_pure 1 [(13, .pointer (some ⟨b1, 1, none⟩))] (by kernel_rfl) ?_
 refine wS_load1 (d := 14) (T := 2) (ad := ⟨b1, 1, none⟩) (v := .int .i64 (p0_1)) (by kernel_rfl) vt2 ((F1).cell 1) ?_
 refine wS_pure 3 [(4, .int .i64 (wr ((wr (p0_0 - p0_1)) * 4096))), (16, .int .i64 (wr ((wr (p0_0 - p0_1)) * 4096))), (15, .int .i64 (wr (p0_0 - p0_1)))] (by kernel_rfl) ?_
 refine wS_end (by rfl) ?_
 refine eX_then ?_
 refine cW_seq ?_
 refine cW_region ?_
 refine wS_pure 5 [(21, .agg #[.int .i64 (wr ((wr (p0_0 + p0_1)) * 4096)), .int .i64 (wr ((wr (p0_0 + p0_1)) * 4096)), .int .i64 (wr ((wr (p0_0 - p0_1)) * 4096)), .int .i64 (wr ((wr (p0_0 - p0_1)) * 4096))]), (20, .int .i64 (wr ((wr (p0_0 - p0_1)) * 4096))), (19, .int .i64 (wr ((wr (p0_0 - p0_1)) * 4096))), (18, .int .i64 (wr ((wr (p0_0 + p0_1)) * 4096))), (17, .int .i64 (wr ((wr (p0_0 + p0_1)) * 4096)))] (by kernel_rfl) ?_
 refine wS_store (T := 55) (g := b2) (o := 0) (ad := ⟨b2, 0, none⟩) (v := .agg #[.int .i64 (wr ((wr (p0_0 + p0_1)) * 4096)), .int .i64 (wr ((wr (p0_0 + p0_1)) * 4096)), .int .i64 (wr ((wr (p0_0 - p0_1)) * 4096)), .int .i64 (wr ((wr (p0_0 - p0_1)) * 4096))]) (vs := [.int .i64 (wr ((wr (p0_0 + p0_1)) * 4096)), .int .i64 (wr ((wr (p0_0 + p0_1)) * 4096)), .int .i64 (wr ((wr (p0_0 - p0_1)) * 4096)), .int .i64 (wr ((wr (p0_0 - p0_1)) * 4096))]) (by kernel_rfl) (by rfl) sz55 (by rfl) (by rfl) F2 (by simp only [List.length_cons, List.length_nil]; omega) ?_
 intro w3 F3 hc3
 replace F1 := F1.chg hc3 (dj1 D1)
 replace hB := hB.inS hc3 (inLow (low1 G2))
 replace hZ := Nat.le_trans hZ hc3.size
 replace F3 : Cl w3 b2 55 [.int .i64 (wr ((wr (p0_0 + p0_1)) * 4096)), .int .i64 (wr ((wr (p0_0 + p0_1)) * 4096)), .int .i64 (wr ((wr (p0_0 - p0_1)) * 4096)), .int .i64 (wr ((wr (p0_0 - p0_1)) * 4096))] := F3
 clear F2
 refine wS_end (by rfl) ?_
 refine eX_then ?_
 refine cW_ret ?_
 have hq : (some ((wr ((wr (p0_0 + p0_1)) * 4096), wr ((wr (p0_0 + p0_1)) * 4096), wr ((wr (p0_0 - p0_1)) * 4096), wr ((wr (p0_0 - p0_1)) * 4096))) : Option ((Int × Int × Int × Int))) = some _ := hm
 replace hq := someE hq
 subst hq
 refine eX_ret (vs := [.agg #[.int .i64 (wr ((wr (p0_0 + p0_1)) * 4096)), .int .i64 (wr ((wr (p0_0 + p0_1)) * 4096)), .int .i64 (wr ((wr (p0_0 - p0_1)) * 4096)), .int .i64 (wr ((wr (p0_0 - p0_1)) * 4096))]]) [.cell 2 55] (by rfl) ⟨⟨⟨b2, 0, none⟩, by kernel_rfl, run_loadVarA (vs := [.int .i64 (wr ((wr (p0_0 + p0_1)) * 4096)), .int .i64 (wr ((wr (p0_0 + p0_1)) * 4096)), .int .i64 (wr ((wr (p0_0 - p0_1)) * 4096)), .int .i64 (wr ((wr (p0_0 - p0_1)) * 4096))]) vt55 (fun i u hu => by exact box_cells F3 0 hu (by rfl))⟩, trivial⟩ ?_
 exact ⟨rfl, hB⟩

set_option maxRecDepth 100000 in
/-- spec.l00Max -/
theorem c_spec_l00Max {w0 : World} {p0 : Int} {p1 : Int} {r : (Int)} (hm : m_spec_l00Max p0 p1 = some r)  :
  Calls Try.prog 65 #[.int .i64 (p0), .int .i64 (p1)] w0 fun e w' => e = .returned (.int .i64 (r)) ∧ Chg [] w0 w' := by
 have hB : Chg [] w0 w0 := Chg.refl _ _
 have hZ := Nat.le_refl w0.heap.size
 unfold m_spec_l00Max at hm
 refine enterE (N := 10) Try.func65 (by rfl) Try.ntmps65 (by simp) [(0, .int .i64 (p0)), (1, .int .i64 (p1))] (by rfl) (by kernel_rfl) (fun a => ?_)
 refine cW_seq ?_
 refine cW_region ?_
 refine wS_pure 1 [(4, .int .i64 (0))] (by kernel_rfl) ?_
 refine wS_end (by rfl) ?_
 refine eX_then ?_
 refine cW_seq ?_
 refine cW_seq ?_
 refine cW_region ?_
 refine wS_pure 3 [(7, .bool (decide (p0 > p1))), (6, .int .i64 (p1)), (5, .int .i64 (p0))] (by kernel_rfl) ?_
 refine wS_end (by rfl) ?_
 refine eX_then ?_
 refine cW_cond (t := decide (p0 > p1)) (by kernel_rfl) (fun hb1 => ?_) (fun hb1 => ?_)
 ·have hm := condT hb1 hm
  refine cW_seq ?_
  refine cW_region ?_
  refine wS_pure 2 [(4, .int .i64 (p0)), (8, .int .i64 (p0))] (by kernel_rfl) ?_
  refine wS_end (by rfl) ?_
  refine eX_then ?_
  refine cW_ret ?_
  refine eX_then_ret ?_
  have hq : (some p0 : Option ((Int))) = some _ := hm
  replace hq := someE hq
  subst hq
  refine eX_ret (vs := [.int .i64 (p0)]) [.tmp 4] (by rfl) ⟨by (show lkE _ _ _ = _); kernel_rfl, trivial⟩ ?_
  exact ⟨rfl, hB⟩
 ·have hm := condF hb1 hm
  refine cW_skip ?_
  refine eX_then ?_
  refine cW_seq ?_
  refine cW_region ?_
  refine wS_pure 2 [(4, .int .i64 (p1)), (9, .int .i64 (p1))] (by kernel_rfl) ?_
  refine wS_end (by rfl) ?_
  refine eX_then ?_
  refine cW_ret ?_
  have hq : (some p1 : Option ((Int))) = some _ := hm
  replace hq := someE hq
  subst hq
  refine eX_ret (vs := [.int .i64 (p1)]) [.tmp 4] (by rfl) ⟨by (show lkE _ _ _ = _); kernel_rfl, trivial⟩ ?_
  exact ⟨rfl, hB⟩

set_option maxRecDepth 100000 in
/-- spec.l06Far -/
theorem c_spec_l06Far {w0 : World} {p0_0 : Int} {p0_1 : Int} {p0_2 : Int} {p0_3 : Int} {p1_0 : Int} {p1_1 : Int} {p1_2 : Int} {p1_3 : Int} {r : (Int)} (hm : m_spec_l06Far p0_0 p0_1 p0_2 p0_3 p1_0 p1_1 p1_2 p1_3 = some r)  :
  Calls Try.prog 62 #[.agg #[.int .i64 (p0_0), .int .i64 (p0_1), .int .i64 (p0_2), .int .i64 (p0_3)], .agg #[.int .i64 (p1_0), .int .i64 (p1_1), .int .i64 (p1_2), .int .i64 (p1_3)]] w0 fun e w' => e = .returned (.int .i64 (r)) ∧ Chg [] w0 w' := by
 have hB : Chg [] w0 w0 := Chg.refl _ _
 have hZ := Nat.le_refl w0.heap.size
 unfold m_spec_l06Far at hm
 refine enterE (N := 34) Try.func62 (by rfl) Try.ntmps62 (by simp) [(0, .agg #[.int .i64 (p0_0), .int .i64 (p0_1), .int .i64 (p0_2), .int .i64 (p0_3)]), (1, .agg #[.int .i64 (p1_0), .int .i64 (p1_1), .int .i64 (p1_2), .int .i64 (p1_3)])] (by rfl) (by kernel_rfl) (fun a => ?_)
 refine cW_seq ?_
 refine cW_region ?_
 refine wS_box (d := 2) (T := 55) (x := .agg #[.int .i64 (p0_0), .int .i64 (p0_1), .int .i64 (p0_2), .int .i64 (p0_3)]) (by kernel_rfl) ?_
 intro b1 w1 G1 F1 hc1
 replace F1 : Cl w1 b1 55 [.int .i64 (p0_0), .int .i64 (p0_1), .int .i64 (p0_2), .int .i64 (p0_3)] := F1
 replace hB := hB.inS hc1 inNil
 replace G1 := Nat.le_trans hZ G1
 replace hZ := Nat.le_trans hZ hc1.size
 refine wS_box (d := 3) (T := 55) (x := .agg #[.int .i64 (p1_0), .int .i64 (p1_1), .int .i64 (p1_2), .int .i64 (p1_3)]) (by kernel_rfl) ?_
 intro b2 w2 G2 F2 hc2
 replace F2 : Cl w2 b2 55 [.int .i64 (p1_0), .int .i64 (p1_1), .int .i64 (p1_2), .int .i64 (p1_3)] := F2
 have D1 : Dj [b1] [b2] := Dj.of (lt1 F1.lt) (low1 G2)
 replace F1 := F1.chg hc2 notNil
 replace hB := hB.inS hc2 inNil
 replace G2 := Nat.le_trans hZ G2
 replace hZ := Nat.le_trans hZ hc2.size
 refine wS_pure 1 [(4, .int .i64 (0))] (by kernel_rfl) ?_
 refine wS_end (by rfl) ?_
 refine eX_then ?_
 refine cW_seq ?_
 refine cW_region ?_
 refine wS_pure 1 [(7, .pointer (some ⟨b1, 0, none⟩))] (by kernel_rfl) ?_
 refine wS_load1 (d := 8) (T := 2) (ad := ⟨b1, 0, none⟩) (v := .int .i64 (p0_0)) (by kernel_rfl) vt2 ((F1).cell 0) ?_
 refine wS_pure 1 [(9, .pointer (some ⟨b2, 1, none⟩))] (by kernel_rfl) ?_
 refine wS_load1 (d := 10) (T := 2) (ad := ⟨b2, 1, none⟩) (v := .int .i64 (p1_1)) (by kernel_rfl) vt2 ((F2).cell 1) ?_
 refine wS_pure 2 [(12, .pointer (some ⟨b2, 0, none⟩)), (11, .int .i64 (wr (p0_0 - p1_1)))] (by kernel_rfl) ?_
 refine wS_load1 (d := 13) (T := 2) (ad := ⟨b2, 0, none⟩) (v := .int .i64 (p1_0)) (by kernel_rfl) vt2 ((F2).cell 0) ?_
 refine wS_pure 1 [(14, .pointer (some ⟨b1, 1, none⟩))] (by kernel_rfl) ?_
 refine wS_load1 (d := 15) (T := 2) (ad := ⟨b1, 1, none⟩) (v := .int .i64 (p0_1)) (by kernel_rfl) vt2 ((F1).cell 1) ?_
 refine wS_pure 1 [(16, .int .i64 (wr (p1_0 - p0_1)))] (by kernel_rfl) ?_
 obtain ⟨y1, hy1, hm⟩ := bindE hm
 refine wS_calls (d := 17) (f := 65) (vs := [.int .i64 (wr (p0_0 - p1_1)), .int .i64 (wr (p1_0 - p0_1))]) (by kernel_rfl) ent65 (c_spec_l00Max hy1) ?_
 rintro _ w3 ⟨rfl, hc3⟩
 replace F1 := F1.chg hc3 notNil
 replace F2 := F2.chg hc3 notNil
 replace hB := hB.inS hc3 inNil
 replace hZ := Nat.le_trans hZ hc3.size
 refine ⟨.int .i64 (y1), rfl, ?_⟩
 obtain ⟨y2, hy2, hm⟩ := bindE hm
 refine wS_calls (d := 18) (f := 65) (vs := [.int .i64 (0), .int .i64 (y1)]) (by kernel_rfl) ent65 (c_spec_l00Max hy2) ?_
 rintro _ w4 ⟨rfl, hc4⟩
 replace F1 := F1.chg hc4 notNil
 replace F2 := F2.chg hc4 notNil
 replace hB := hB.inS hc4 inNil
 replace hZ := Nat.le_trans hZ hc4.size
 refine ⟨.int .i64 (y2), rfl, ?_⟩
 refine wS_pure 1 [(5, .int .i64 (y2))] (by kernel_rfl) ?_
 refine wS_end (by rfl) ?_
 refine eX_then ?_
 refine cW_seq ?_
 refine cW_region ?_
 refine wS_pure 1 [(19, .pointer (some ⟨b1, 2, none⟩))] (by kernel_rfl) ?_
 refine wS_load1 (d := 20) (T := 2) (ad := ⟨b1, 2, none⟩) (v := .int .i64 (p0_2)) (by kernel_rfl) vt2 ((F1).cell 2) ?_
 refine wS_pure 1 [(21, .pointer (some ⟨b2, 3, none⟩))] (by kernel_rfl) ?_
 refine wS_load1 (d := 22) (T := 2) (ad := ⟨b2, 3, none⟩) (v := .int .i64 (p1_3)) (by kernel_rfl) vt2 ((F2).cell 3) ?_
 refine wS_pure 2 [(24, .pointer (some ⟨b2, 2, none⟩)), (23, .int .i64 (wr (p0_2 - p1_3)))] (by kernel_rfl) ?_
 refine wS_load1 (d := 25) (T := 2) (ad := ⟨b2, 2, none⟩) (v := .int .i64 (p1_2)) (by kernel_rfl) vt2 ((F2).cell 2) ?_
 refine wS_pure 1 [(26, .pointer (some ⟨b1, 3, none⟩))] (by kernel_rfl) ?_
 refine wS_load1 (d := 27) (T := 2) (ad := ⟨b1, 3, none⟩) (v := .int .i64 (p0_3)) (by kernel_rfl) vt2 ((F1).cell 3) ?_
 refine wS_pure 1 [(28, .int .i64 (wr (p1_2 - p0_3)))] (by kernel_rfl) ?_
 obtain ⟨y3, hy3, hm⟩ := bindE hm
 refine wS_calls (d := 29) (f := 65) (vs := [.int .i64 (wr (p0_2 - p1_3)), .int .i64 (wr (p1_2 - p0_3))]) (by kernel_rfl) ent65 (c_spec_l00Max hy3) ?_
 rintro _ w5 ⟨rfl, hc5⟩
 replace F1 := F1.chg hc5 notNil
 replace F2 := F2.chg hc5 notNil
 replace hB := hB.inS hc5 inNil
 replace hZ := Nat.le_trans hZ hc5.size
 refine ⟨.int .i64 (y3), rfl, ?_⟩
 obtain ⟨y4, hy4, hm⟩ := bindE hm
 refine wS_calls (d := 30) (f := 65) (vs := [.int .i64 (0), .int .i64 (y3)]) (by kernel_rfl) ent65 (c_spec_l00Max hy4) ?_
 rintro _ w6 ⟨rfl, hc6⟩
 replace F1 := F1.chg hc6 notNil
 replace F2 := F2.chg hc6 notNil
 replace hB := hB.inS hc6 inNil
 replace hZ := Nat.le_trans hZ hc6.size
 refine ⟨.int .i64 (y4), rfl, ?_⟩
 refine wS_pure 1 [(6, .int .i64 (y4))] (by kernel_rfl) ?_
 refine wS_end (by rfl) ?_
 refine eX_then ?_
 refine cW_prune [(5, .int .i64 (y2)), (6, .int .i64 (y4))] (by kernel_rfl) (by kernel_rfl) (fun a1 => ?_)
 refine cW_seq ?_
 refine cW_region ?_
 refine wS_pure 2 [(32, .int .i64 (y4)), (31, .int .i64 (y2))] (by kernel_rfl) ?_
 obtain ⟨y5, hy5, hm⟩ := bindE hm
 refine wS_calls (d := 33) (f := 65) (vs := [.int .i64 (y2), .int .i64 (y4)]) (by kernel_rfl) ent65 (c_spec_l00Max hy5) ?_
 rintro _ w7 ⟨rfl, hc7⟩
 replace F1 := F1.chg hc7 notNil
 replace F2 := F2.chg hc7 notNil
 replace hB := hB.inS hc7 inNil
 replace hZ := Nat.le_trans hZ hc7.size
 refine ⟨.int .i64 (y5), rfl, ?_⟩
 refine wS_pure 1 [(4, .int .i64 (y5))] (by kernel_rfl) ?_
 refine wS_end (by rfl) ?_
 refine eX_then ?_
 refine cW_ret ?_
 have hq : (some y5 : Option ((Int))) = some _ := hm
 replace hq := someE hq
 subst hq
 refine eX_ret (vs := [.int .i64 (y5)]) [.tmp 4] (by rfl) ⟨by (show lkE _ _ _ = _); kernel_rfl, trivial⟩ ?_
 exact ⟨rfl, hB⟩

set_option maxRecDepth 100000 in
/-- spec.l00Min -/
theorem c_spec_l00Min {w0 : World} {p0 : Int} {p1 : Int} {r : (Int)} (hm : m_spec_l00Min p0 p1 = some r)  :
  Calls Try.prog 66 #[.int .i64 (p0), .int .i64 (p1)] w0 fun e w' => e = .returned (.int .i64 (r)) ∧ Chg [] w0 w' := by
 have hB : Chg [] w0 w0 := Chg.refl _ _
 have hZ := Nat.le_refl w0.heap.size
 unfold m_spec_l00Min at hm
 refine enterE (N := 10) Try.func66 (by rfl) Try.ntmps66 (by simp) [(0, .int .i64 (p0)), (1, .int .i64 (p1))] (by rfl) (by kernel_rfl) (fun a => ?_)
 refine cW_seq ?_
 refine cW_region ?_
 refine wS_pure 1 [(4, .int .i64 (0))] (by kernel_rfl) ?_
 refine wS_end (by rfl) ?_
 refine eX_then ?_
 refine cW_seq ?_
 refine cW_seq ?_
 refine cW_region ?_
 refine wS_pure 3 [(7, .bool (decide (p0 < p1))), (6, .int .i64 (p1)), (5, .int .i64 (p0))] (by kernel_rfl) ?_
 refine wS_end (by rfl) ?_
 refine eX_then ?_
 refine cW_cond (t := decide (p0 < p1)) (by kernel_rfl) (fun hb1 => ?_) (fun hb1 => ?_)
 ·have hm := condT hb1 hm
  refine cW_seq ?_
  refine cW_region ?_
  refine wS_pure 2 [(4, .int .i64 (p0)), (8, .int .i64 (p0))] (by kernel_rfl) ?_
  refine wS_end (by rfl) ?_
  refine eX_then ?_
  refine cW_ret ?_
  refine eX_then_ret ?_
  have hq : (some p0 : Option ((Int))) = some _ := hm
  replace hq := someE hq
  subst hq
  refine eX_ret (vs := [.int .i64 (p0)]) [.tmp 4] (by rfl) ⟨by (show lkE _ _ _ = _); kernel_rfl, trivial⟩ ?_
  exact ⟨rfl, hB⟩
 ·have hm := condF hb1 hm
  refine cW_skip ?_
  refine eX_then ?_
  refine cW_seq ?_
  refine cW_region ?_
  refine wS_pure 2 [(4, .int .i64 (p1)), (9, .int .i64 (p1))] (by kernel_rfl) ?_
  refine wS_end (by rfl) ?_
  refine eX_then ?_
  refine cW_ret ?_
  have hq : (some p1 : Option ((Int))) = some _ := hm
  replace hq := someE hq
  subst hq
  refine eX_ret (vs := [.int .i64 (p1)]) [.tmp 4] (by rfl) ⟨by (show lkE _ _ _ = _); kernel_rfl, trivial⟩ ?_
  exact ⟨rfl, hB⟩

set_option maxRecDepth 100000 in
/-- spec.l06Meet -/
theorem c_spec_l06Meet {w0 : World} {p0_0 : Int} {p0_1 : Int} {p0_2 : Int} {p0_3 : Int} {p1_0 : Int} {p1_1 : Int} {p1_2 : Int} {p1_3 : Int} {r : (Int × Int × Int × Int)} (hm : m_spec_l06Meet p0_0 p0_1 p0_2 p0_3 p1_0 p1_1 p1_2 p1_3 = some r)  :
  Calls Try.prog 63 #[.agg #[.int .i64 (p0_0), .int .i64 (p0_1), .int .i64 (p0_2), .int .i64 (p0_3)], .agg #[.int .i64 (p1_0), .int .i64 (p1_1), .int .i64 (p1_2), .int .i64 (p1_3)]] w0 fun e w' => e = .returned (.agg #[.int .i64 (r.1), .int .i64 (r.2.1), .int .i64 (r.2.2.1), .int .i64 (r.2.2.2)]) ∧ Chg [] w0 w' := by
 have hB : Chg [] w0 w0 := Chg.refl _ _
 have hZ := Nat.le_refl w0.heap.size
 unfold m_spec_l06Meet at hm
 refine enterE (N := 26) Try.func63 (by rfl) Try.ntmps63 (by simp) [(0, .agg #[.int .i64 (p0_0), .int .i64 (p0_1), .int .i64 (p0_2), .int .i64 (p0_3)]), (1, .agg #[.int .i64 (p1_0), .int .i64 (p1_1), .int .i64 (p1_2), .int .i64 (p1_3)])] (by rfl) (by kernel_rfl) (fun a => ?_)
 refine cW_seq ?_
 refine cW_region ?_
 refine wS_box (d := 2) (T := 55) (x := .agg #[.int .i64 (p0_0), .int .i64 (p0_1), .int .i64 (p0_2), .int .i64 (p0_3)]) (by kernel_rfl) ?_
 intro b1 w1 G1 F1 hc1
 replace F1 : Cl w1 b1 55 [.int .i64 (p0_0), .int .i64 (p0_1), .int .i64 (p0_2), .int .i64 (p0_3)] := F1
 replace hB := hB.inS hc1 inNil
 replace G1 := Nat.le_trans hZ G1
 replace hZ := Nat.le_trans hZ hc1.size
 refine wS_box (d := 3) (T := 55) (x := .agg #[.int .i64 (p1_0), .int .i64 (p1_1), .int .i64 (p1_2), .int .i64 (p1_3)]) (by kernel_rfl) ?_
 intro b2 w2 G2 F2 hc2
 replace F2 : Cl w2 b2 55 [.int .i64 (p1_0), .int .i64 (p1_1), .int .i64 (p1_2), .int .i64 (p1_3)] := F2
 have D1 : Dj [b1] [b2] := Dj.of (lt1 F1.lt) (low1 G2)
 replace F1 := F1.chg hc2 notNil
 replace hB := hB.inS hc2 inNil
 replace G2 := Nat.le_trans hZ G2
 replace hZ := Nat.le_trans hZ hc2.size
 refine wS_alloc (d := 4) (T := 55) (z := .agg #[.int .i64 (0), .int .i64 (0), .int .i64 (0), .int .i64 (0)]) (by kernel_rfl) (by kernel_rfl) ?_
 intro b3 w3 G3 F3 hc3
 replace F3 : Cl w3 b3 55 [.int .i64 (0), .int .i64 (0), .int .i64 (0), .int .i64 (0)] := F3
 have D2 : Dj [b1] [b3] := Dj.of (lt1 F1.lt) (low1 G3)
 have D3 : Dj [b2] [b3] := Dj.of (lt1 F2.lt) (low1 G3)
 replace F1 := F1.chg hc3 notNil
 replace F2 := F2.chg hc3 notNil
 replace hB := hB.inS hc3 inNil
 replace G3 := Nat.le_trans hZ G3
 replace hZ := Nat.le_trans hZ hc3.size
 refine wS_end (by rfl) ?_
 refine eX_then ?_
 refine cW_seq ?_
 refine cW_drawnTail [] 19 (by kernel_rfl) (by kernel_rfl) (fun w4 hc4 => ?_)
 replace F1 := F1.chg hc4 notNil
 replace F2 := F2.chg hc4 notNil
 replace F3 := F3.chg hc4 notNil
 replace hB := hB.inS hc4 inNil
 replace hZ := Nat.le_trans hZ hc4.size
 have hS := Chg.refl [] w4
 have Z1 := F1
 have Z2 := F2
 have Z3 := F3
 refine wH_take [0] [0] [(5, .pointer (some ⟨b1, 0, none⟩))] (by kernel_rfl) (qT (qT qZ)) (by kernel_rfl) ?_
 refine wH_load1 (i := 1) (d := 6) (T := 2) (ad := ⟨b1, 0, none⟩) (v := .int .i64 (p0_0)) (by kernel_rfl) (qT (qT qZ)) (by kernel_rfl) (by kernel_rfl) vt2 (fun W hW => (Z1.chg hW notNil).cell 0) ?_
 refine wH_take [2] [2, 1, 0] [(7, .pointer (some ⟨b2, 0, none⟩))] (by kernel_rfl) (qT (qT qZ)) (by kernel_rfl) ?_
 refine wH_load1 (i := 3) (d := 8) (T := 2) (ad := ⟨b2, 0, none⟩) (v := .int .i64 (p1_0)) (by kernel_rfl) (qT (qT qZ)) (by kernel_rfl) (by kernel_rfl) vt2 (fun W hW => (Z2.chg hW notNil).cell 0) ?_
 refine wH_take [5] [5, 3, 2, 1, 0] [(10, .pointer (some ⟨b1, 1, none⟩))] (by kernel_rfl) (qT (qT qZ)) (by kernel_rfl) ?_
 refine wH_load1 (i := 6) (d := 11) (T := 2) (ad := ⟨b1, 1, none⟩) (v := .int .i64 (p0_1)) (by kernel_rfl) (qT (qT qZ)) (by kernel_rfl) (by kernel_rfl) vt2 (fun W hW => (Z1.chg hW notNil).cell 1) ?_
 refine wH_take [7] [7, 6, 5, 3, 2, 1, 0] [(12, .pointer (some ⟨b2, 1, none⟩))] (by kernel_rfl) (qT (qT qZ)) (by kernel_rfl) ?_
 refine wH_load1 (i := 8) (d := 13) (T := 2) (ad := ⟨b2, 1, none⟩) (v := .int .i64 (p1_1)) (by kernel_rfl) (qT (qT qZ)) (by kernel_rfl) (by kernel_rfl) vt2 (fun W hW => (Z2.chg hW notNil).cell 1) ?_
 refine wH_take [10] [10, 8, 7, 6, 5, 3, 2, 1, 0] [(15, .pointer (some ⟨b1, 2, none⟩))] (by kernel_rfl) (qT (qT qZ)) (by kernel_rfl) ?_
 refine wH_load1 (i := 11) (d := 16) (T := 2) (ad := ⟨b1, 2, none⟩) (v := .int .i64 (p0_2)) (by kernel_rfl) (qT (qT qZ)) (by kernel_rfl) (by kernel_rfl) vt2 (fun W hW => (Z1.chg hW notNil).cell 2) ?_
 refine wH_take [12] [12, 11, 10, 8, 7, 6, 5, 3, 2, 1, 0] [(17, .pointer (some ⟨b2, 2, none⟩))] (by kernel_rfl) (qT (qT qZ)) (by kernel_rfl) ?_
 refine wH_load1 (i := 13) (d := 18) (T := 2) (ad := ⟨b2, 2, none⟩) (v := .int .i64 (p1_2)) (by kernel_rfl) (qT (qT qZ)) (by kernel_rfl) (by kernel_rfl) vt2 (fun W hW => (Z2.chg hW notNil).cell 2) ?_
 refine wH_take [15] [15, 13, 12, 11, 10, 8, 7, 6, 5, 3, 2, 1, 0] [(20, .pointer (some ⟨b1, 3, none⟩))] (by kernel_rfl) (qT (qT qZ)) (by kernel_rfl) ?_
 refine wH_load1 (i := 16) (d := 21) (T := 2) (ad := ⟨b1, 3, none⟩) (v := .int .i64 (p0_3)) (by kernel_rfl) (qT (qT qZ)) (by kernel_rfl) (by kernel_rfl) vt2 (fun W hW => (Z1.chg hW notNil).cell 3) ?_
 refine wH_take [17] [17, 16, 15, 13, 12, 11, 10, 8, 7, 6, 5, 3, 2, 1, 0] [(22, .pointer (some ⟨b2, 3, none⟩))] (by kernel_rfl) (qT (qT qZ)) (by kernel_rfl) ?_
 refine wH_load1 (i := 18) (d := 23) (T := 2) (ad := ⟨b2, 3, none⟩) (v := .int .i64 (p1_3)) (by kernel_rfl) (qT (qT qZ)) (by kernel_rfl) (by kernel_rfl) vt2 (fun W hW => (Z2.chg hW notNil).cell 3) ?_
 refine wH_all [4] (by rfl) (by kernel_rfl) (by simp) ⟨⟨by kernel_rfl, ?_⟩, trivial⟩
 obtain ⟨y1, hy1, hm⟩ := bindE hm
 refine wS_calls (d := 9) (f := 65) (vs := [.int .i64 (p0_0), .int .i64 (p1_0)]) (by kernel_rfl) ent65 (c_spec_l00Max hy1) ?_
 rintro _ w5 ⟨rfl, hc5⟩
 replace F1 := F1.chg hc5 notNil
 replace F2 := F2.chg hc5 notNil
 replace F3 := F3.chg hc5 notNil
 replace hB := hB.inS hc5 inNil
 have hSz := hS
 replace hS := hS.inS hc5 inNil
 replace hZ := Nat.le_trans hZ hc5.size
 refine ⟨.int .i64 (y1), rfl, ?_⟩
 refine wS_end (by kernel_rfl) ?_
 refine eX_KH hS ?_
 refine wH_all [9] (by rfl) (by kernel_rfl) (by simp) ⟨⟨by kernel_rfl, ?_⟩, trivial⟩
 obtain ⟨y2, hy2, hm⟩ := bindE hm
 refine wS_calls (d := 14) (f := 66) (vs := [.int .i64 (p0_1), .int .i64 (p1_1)]) (by kernel_rfl) ent66 (c_spec_l00Min hy2) ?_
 rintro _ w6 ⟨rfl, hc6⟩
 replace F1 := F1.chg hc6 notNil
 replace F2 := F2.chg hc6 notNil
 replace F3 := F3.chg hc6 notNil
 replace hB := hB.inS hc6 inNil
 have hSz := hS
 replace hS := hS.inS hc6 inNil
 replace hZ := Nat.le_trans hZ hc6.size
 refine ⟨.int .i64 (y2), rfl, ?_⟩
 refine wS_end (by kernel_rfl) ?_
 refine eX_KH hS ?_
 refine wH_all [14] (by rfl) (by kernel_rfl) (by simp) ⟨⟨by kernel_rfl, ?_⟩, trivial⟩
 obtain ⟨y3, hy3, hm⟩ := bindE hm
 refine wS_calls (d := 19) (f := 65) (vs := [.int .i64 (p0_2), .int .i64 (p1_2)]) (by kernel_rfl) ent65 (c_spec_l00Max hy3) ?_
 rintro _ w7 ⟨rfl, hc7⟩
 replace F1 := F1.chg hc7 notNil
 replace F2 := F2.chg hc7 notNil
 replace F3 := F3.chg hc7 notNil
 replace hB := hB.inS hc7 inNil
 have hSz := hS
 replace hS := hS.inS hc7 inNil
 replace hZ := Nat.le_trans hZ hc7.size
 refine ⟨.int .i64 (y3), rfl, ?_⟩
 refine wS_end (by kernel_rfl) ?_
 refine eX_KH hS ?_
 refine wH_done (by kernel_rfl) ?_
 refine eX_tail ?_
 obtain ⟨y4, hy4, hm⟩ := bindE hm
 refine wS_calls (d := 24) (f := 66) (vs := [.int .i64 (p0_3), .int .i64 (p1_3)]) (by kernel_rfl) ent66 (c_spec_l00Min hy4) ?_
 rintro _ w8 ⟨rfl, hc8⟩
 replace F1 := F1.chg hc8 notNil
 replace F2 := F2.chg hc8 notNil
 replace F3 := F3.chg hc8 notNil
 replace hB := hB.inS hc8 inNil
 replace hZ := Nat.le_trans hZ hc8.size
 refine ⟨.int .i64 (y4), rfl, ?_⟩
 refine wS_pure 1 [(25, .agg #[.int .i64 (y1), .int .i64 (y2), .int .i64 (y3), .int .i64 (y4)])] (by kernel_rfl) ?_
 refine wS_store (T := 55) (g := b3) (o := 0) (ad := ⟨b3, 0, none⟩) (v := .agg #[.int .i64 (y1), .int .i64 (y2), .int .i64 (y3), .int .i64 (y4)]) (vs := [.int .i64 (y1), .int .i64 (y2), .int .i64 (y3), .int .i64 (y4)]) (by kernel_rfl) (by rfl) sz55 (by rfl) (by rfl) F3 (by simp only [List.length_cons, List.length_nil]; omega) ?_
 intro w9 F4 hc9
 replace F1 := F1.chg hc9 (dj1 D2)
 replace F2 := F2.chg hc9 (dj1 D3)
 replace hB := hB.inS hc9 (inLow (low1 G3))
 replace hZ := Nat.le_trans hZ hc9.size
 replace F4 : Cl w9 b3 55 [.int .i64 (y1), .int .i64 (y2), .int .i64 (y3), .int .i64 (y4)] := F4
 clear F3
 refine wS_end (by rfl) ?_
 refine eX_then ?_
 refine cW_prune [(4, .pointer (some ⟨b3, 0, none⟩))] (by kernel_rfl) (by kernel_rfl) (fun a1 => ?_)
 refine cW_ret ?_
 have hq : (some ((y1, y2, y3, y4)) : Option ((Int × Int × Int × Int))) = some _ := hm
 replace hq := someE hq
 subst hq
 refine eX_ret (vs := [.agg #[.int .i64 (y1), .int .i64 (y2), .int .i64 (y3), .int .i64 (y4)]]) [.cell 4 55] (by rfl) ⟨⟨⟨b3, 0, none⟩, by kernel_rfl, run_loadVarA (vs := [.int .i64 (y1), .int .i64 (y2), .int .i64 (y3), .int .i64 (y4)]) vt55 (fun i u hu => by exact box_cells F4 0 hu (by rfl))⟩, trivial⟩ ?_
 exact ⟨rfl, hB⟩

set_option maxRecDepth 100000 in
/-- spec.l06Grow -/
theorem c_spec_l06Grow {w0 : World} {p0_0 : Int} {p0_1 : Int} {p0_2 : Int} {p0_3 : Int} {p1 : Int} {r : (Int × Int × Int × Int)} (hm : m_spec_l06Grow p0_0 p0_1 p0_2 p0_3 p1 = some r)  :
  Calls Try.prog 64 #[.agg #[.int .i64 (p0_0), .int .i64 (p0_1), .int .i64 (p0_2), .int .i64 (p0_3)], .int .i64 (p1)] w0 fun e w' => e = .returned (.agg #[.int .i64 (r.1), .int .i64 (r.2.1), .int .i64 (r.2.2.1), .int .i64 (r.2.2.2)]) ∧ Chg [] w0 w' := by
 have hB : Chg [] w0 w0 := Chg.refl _ _
 have hZ := Nat.le_refl w0.heap.size
 unfold m_spec_l06Grow at hm
 refine enterE (N := 22) Try.func64 (by rfl) Try.ntmps64 (by simp) [(0, .agg #[.int .i64 (p0_0), .int .i64 (p0_1), .int .i64 (p0_2), .int .i64 (p0_3)]), (1, .int .i64 (p1))] (by rfl) (by kernel_rfl) (fun a => ?_)
 refine cW_seq ?_
 refine cW_region ?_
 refine wS_box (d := 2) (T := 55) (x := .agg #[.int .i64 (p0_0), .int .i64 (p0_1), .int .i64 (p0_2), .int .i64 (p0_3)]) (by kernel_rfl) ?_
 intro b1 w1 G1 F1 hc1
 replace F1 : Cl w1 b1 55 [.int .i64 (p0_0), .int .i64 (p0_1), .int .i64 (p0_2), .int .i64 (p0_3)] := F1
 replace hB := hB.inS hc1 inNil
 replace G1 := Nat.le_trans hZ G1
 replace hZ := Nat.le_trans hZ hc1.size
 refine wS_alloc (d := 4) (T := 55) (z := .agg #[.int .i64 (0), .int .i64 (0), .int .i64 (0), .int .i64 (0)]) (by kernel_rfl) (by kernel_rfl) ?_
 intro b2 w2 G2 F2 hc2
 replace F2 : Cl w2 b2 55 [.int .i64 (0), .int .i64 (0), .int .i64 (0), .int .i64 (0)] := F2
 have D1 : Dj [b1] [b2] := Dj.of (lt1 F1.lt) (low1 G2)
 replace F1 := F1.chg hc2 notNil
 replace hB := hB.inS hc2 inNil
 replace G2 := Nat.le_trans hZ G2
 replace hZ := Nat.le_trans hZ hc2.size
 refine wS_end (by rfl) ?_
 refine eX_then ?_
 refine cW_seq ?_
 refine cW_region ?_
 refine wS_pure 1 [(5, .pointer (some ⟨b1, 0, none⟩))] (by kernel_rfl) ?_
 refine wS_load1 (d := 6) (T := 2) (ad := ⟨b1, 0, none⟩) (v := .int .i64 (p0_0)) (by kernel_rfl) vt2 ((F1).cell 0) ?_
 refine wS_pure 3 [(9, .pointer (some ⟨b1, 1, none⟩)), (8, .int .i64 (wr (p0_0 - p1))), (7, .int .i64 (p1))] (by kernel_rfl) ?_
 refine wS_load1 (d := 10) (T := 2) (ad := ⟨b1, 1, none⟩) (v := .int .i64 (p0_1)) (by kernel_rfl) vt2 ((F1).cell 1) ?_
 refine wS_pure 3 [(13, .pointer (some ⟨b1, 2, none⟩)), (12, .int .i64 (wr (p0_1 + p1))), (11, .int .i64 (p1))] (by kernel_rfl) ?_
 refine wS_load1 (d := 14) (T := 2) (ad := ⟨b1, 2, none⟩) (v := .int .i64 (p0_2)) (by kernel_rfl) vt2 ((F1).cell 2) ?_
 refine wS_pure 3 [(17, .pointer (some ⟨b1, 3, none⟩)), (16, .int .i64 (wr (p0_2 - p1))), (15, .int .i64 (p1))] (by kernel_rfl) ?_
 refine wS_load1 (d := 18) (T := 2) (ad := ⟨b1, 3, none⟩) (v := .int .i64 (p0_3)) (by kernel_rfl) vt2 ((F1).cell 3) ?_
 refine wS_pure 3 [(21, .agg #[.int .i64 (wr (p0_0 - p1)), .int .i64 (wr (p0_1 + p1)), .int .i64 (wr (p0_2 - p1)), .int .i64 (wr (p0_3 + p1))]), (20, .int .i64 (wr (p0_3 + p1))), (19, .int .i64 (p1))] (by kernel_rfl) ?_
 refine wS_store (T := 55) (g := b2) (o := 0) (ad := ⟨b2, 0, none⟩) (v := .agg #[.int .i64 (wr (p0_0 - p1)), .int .i64 (wr (p0_1 + p1)), .int .i64 (wr (p0_2 - p1)), .int .i64 (wr (p0_3 + p1))]) (vs := [.int .i64 (wr (p0_0 - p1)), .int .i64 (wr (p0_1 + p1)), .int .i64 (wr (p0_2 - p1)), .int .i64 (wr (p0_3 + p1))]) (by kernel_rfl) (by rfl) sz55 (by rfl) (by rfl) F2 (by simp only [List.length_cons, List.length_nil]; omega) ?_
 intro w3 F3 hc3
 replace F1 := F1.chg hc3 (dj1 D1)
 replace hB := hB.inS hc3 (inLow (low1 G2))
 replace hZ := Nat.le_trans hZ hc3.size
 replace F3 : Cl w3 b2 55 [.int .i64 (wr (p0_0 - p1)), .int .i64 (wr (p0_1 + p1)), .int .i64 (wr (p0_2 - p1)), .int .i64 (wr (p0_3 + p1))] := F3
 clear F2
 refine wS_end (by rfl) ?_
 refine eX_then ?_
 refine cW_ret ?_
 have hq : (some ((wr (p0_0 - p1), wr (p0_1 + p1), wr (p0_2 - p1), wr (p0_3 + p1))) : Option ((Int × Int × Int × Int))) = some _ := hm
 replace hq := someE hq
 subst hq
 refine eX_ret (vs := [.agg #[.int .i64 (wr (p0_0 - p1)), .int .i64 (wr (p0_1 + p1)), .int .i64 (wr (p0_2 - p1)), .int .i64 (wr (p0_3 + p1))]]) [.cell 4 55] (by rfl) ⟨⟨⟨b2, 0, none⟩, by kernel_rfl, run_loadVarA (vs := [.int .i64 (wr (p0_0 - p1)), .int .i64 (wr (p0_1 + p1)), .int .i64 (wr (p0_2 - p1)), .int .i64 (wr (p0_3 + p1))]) vt55 (fun i u hu => by exact box_cells F3 0 hu (by rfl))⟩, trivial⟩ ?_
 exact ⟨rfl, hB⟩

set_option maxRecDepth 100000 in
/-- spec.l06Pair -/
theorem c_spec_l06Pair {w0 : World} {p0_0 : Int} {p0_1 : Int} {p0_2 : Int} {p0_3 : Int} {p0_4 : Int} {p1_0 : Int} {p1_1 : Int} {p1_2 : Int} {p1_3 : Int} {p1_4 : Int} {r : (Int × Int × Int × Int × Int) × (Int) × (Int)} (hm : m_spec_l06Pair p0_0 p0_1 p0_2 p0_3 p0_4 p1_0 p1_1 p1_2 p1_3 p1_4 = some r)  :
  Calls Try.prog 61 #[.agg #[.int .i64 (p0_0), .int .i64 (p0_1), .int .i64 (p0_2), .int .i64 (p0_3), .int .i64 (p0_4)], .agg #[.int .i64 (p1_0), .int .i64 (p1_1), .int .i64 (p1_2), .int .i64 (p1_3), .int .i64 (p1_4)]] w0 fun e w' => e = .returned (.tuple #[.agg #[.int .i64 (r.1.1), .int .i64 (r.1.2.1), .int .i64 (r.1.2.2.1), .int .i64 (r.1.2.2.2.1), .int .i64 (r.1.2.2.2.2)], .int .i64 (r.2.1), .int .i64 (r.2.2)]) ∧ Chg [] w0 w' := by
 have hB : Chg [] w0 w0 := Chg.refl _ _
 have hZ := Nat.le_refl w0.heap.size
 unfold m_spec_l06Pair at hm
 refine enterE (N := 56) Try.func61 (by rfl) Try.ntmps61 (by simp) [(0, .agg #[.int .i64 (p0_0), .int .i64 (p0_1), .int .i64 (p0_2), .int .i64 (p0_3), .int .i64 (p0_4)]), (1, .agg #[.int .i64 (p1_0), .int .i64 (p1_1), .int .i64 (p1_2), .int .i64 (p1_3), .int .i64 (p1_4)])] (by rfl) (by kernel_rfl) (fun a => ?_)
 refine cW_seq ?_
 refine cW_region ?_
 refine wS_box (d := 2) (T := 58) (x := .agg #[.int .i64 (p0_0), .int .i64 (p0_1), .int .i64 (p0_2), .int .i64 (p0_3), .int .i64 (p0_4)]) (by kernel_rfl) ?_
 intro b1 w1 G1 F1 hc1
 replace F1 : Cl w1 b1 58 [.int .i64 (p0_0), .int .i64 (p0_1), .int .i64 (p0_2), .int .i64 (p0_3), .int .i64 (p0_4)] := F1
 replace hB := hB.inS hc1 inNil
 replace G1 := Nat.le_trans hZ G1
 replace hZ := Nat.le_trans hZ hc1.size
 refine wS_box (d := 3) (T := 58) (x := .agg #[.int .i64 (p1_0), .int .i64 (p1_1), .int .i64 (p1_2), .int .i64 (p1_3), .int .i64 (p1_4)]) (by kernel_rfl) ?_
 intro b2 w2 G2 F2 hc2
 replace F2 : Cl w2 b2 58 [.int .i64 (p1_0), .int .i64 (p1_1), .int .i64 (p1_2), .int .i64 (p1_3), .int .i64 (p1_4)] := F2
 have D1 : Dj [b1] [b2] := Dj.of (lt1 F1.lt) (low1 G2)
 replace F1 := F1.chg hc2 notNil
 replace hB := hB.inS hc2 inNil
 replace G2 := Nat.le_trans hZ G2
 replace hZ := Nat.le_trans hZ hc2.size
 refine wS_alloc (d := 4) (T := 58) (z := .agg #[.int .i64 (0), .int .i64 (0), .int .i64 (0), .int .i64 (0), .int .i64 (0)]) (by kernel_rfl) (by kernel_rfl) ?_
 intro b3 w3 G3 F3 hc3
 replace F3 : Cl w3 b3 58 [.int .i64 (0), .int .i64 (0), .int .i64 (0), .int .i64 (0), .int .i64 (0)] := F3
 have D2 : Dj [b1] [b3] := Dj.of (lt1 F1.lt) (low1 G3)
 have D3 : Dj [b2] [b3] := Dj.of (lt1 F2.lt) (low1 G3)
 replace F1 := F1.chg hc3 notNil
 replace F2 := F2.chg hc3 notNil
 replace hB := hB.inS hc3 inNil
 replace G3 := Nat.le_trans hZ G3
 replace hZ := Nat.le_trans hZ hc3.size
 refine wS_pure 2 [(6, .int .i64 (0)), (5, .int .i64 (0))] (by kernel_rfl) ?_
 refine wS_end (by rfl) ?_
 refine eX_then ?_
 refine cW_seq ?_
 refine cW_region ?_
 refine wS_pure 1 [(12, .pointer (some ⟨b1, 0, none⟩))] (by kernel_rfl) ?_
 refine wS_loadA (d := 13) (T := 55) (ad := ⟨b1, 0, none⟩) (vs := [.int .i64 (p0_0), .int .i64 (p0_1), .int .i64 (p0_2), .int .i64 (p0_3)]) (by kernel_rfl) vt55 (fun i u hu => box_cells F1 0 hu (by rfl)) ?_
 refine wS_pure 1 [(14, .pointer (some ⟨b2, 0, none⟩))] (by kernel_rfl) ?_
 refine wS_loadA (d := 15) (T := 55) (ad := ⟨b2, 0, none⟩) (vs := [.int .i64 (p1_0), .int .i64 (p1_1), .int .i64 (p1_2), .int .i64 (p1_3)]) (by kernel_rfl) vt55 (fun i u hu => box_cells F2 0 hu (by rfl)) ?_
 obtain ⟨y1, hy1, hm⟩ := bindE hm
 refine wS_calls (d := 16) (f := 62) (vs := [.agg #[.int .i64 (p0_0), .int .i64 (p0_1), .int .i64 (p0_2), .int .i64 (p0_3)], .agg #[.int .i64 (p1_0), .int .i64 (p1_1), .int .i64 (p1_2), .int .i64 (p1_3)]]) (by kernel_rfl) ent62 (c_spec_l06Far hy1) ?_
 rintro _ w4 ⟨rfl, hc4⟩
 replace F1 := F1.chg hc4 notNil
 replace F2 := F2.chg hc4 notNil
 replace F3 := F3.chg hc4 notNil
 replace hB := hB.inS hc4 inNil
 replace hZ := Nat.le_trans hZ hc4.size
 refine ⟨.int .i64 (y1), rfl, ?_⟩
 refine wS_pure 1 [(7, .int .i64 (y1))] (by kernel_rfl) ?_
 refine wS_end (by rfl) ?_
 refine eX_then ?_
 refine cW_seq ?_
 refine cW_region ?_
 refine wS_pure 1 [(17, .pointer (some ⟨b2, 4, none⟩))] (by kernel_rfl) ?_
 refine wS_load1 (d := 18) (T := 2) (ad := ⟨b2, 4, none⟩) (v := .int .i64 (p1_4)) (by kernel_rfl) vt2 ((F2).cell 4) ?_
 refine wS_pure 1 [(19, .pointer (some ⟨b1, 4, none⟩))] (by kernel_rfl) ?_
 refine wS_load1 (d := 20) (T := 2) (ad := ⟨b1, 4, none⟩) (v := .int .i64 (p0_4)) (by kernel_rfl) vt2 ((F1).cell 4) ?_
 refine wS_pure 2 [(8, .int .i64 (wr (p1_4 - p0_4))), (21, .int .i64 (wr (p1_4 - p0_4)))] (by kernel_rfl) ?_
 refine wS_end (by rfl) ?_
 refine eX_then ?_
 refine cW_seq ?_
 refine cW_region ?_
 refine wS_pure 1 [(9, .int .i64 (0))] (by kernel_rfl) ?_
 refine wS_end (by rfl) ?_
 refine eX_then ?_
 refine cW_seq ?_
 refine cW_region ?_
 refine wS_pure 1 [(10, .int .i64 (0))] (by kernel_rfl) ?_
 refine wS_end (by rfl) ?_
 refine eX_then ?_
 refine cW_seq ?_
 obtain ⟨s1, hs1, hm⟩ := bindE hm
 refine cW_cut (fun a' w' => ∃ x1 : Int, ∃ x2 : Int, (x1, x2) = s1 ∧ Fr 56 [(2, .pointer (some ⟨b1, 0, none⟩)), (3, .pointer (some ⟨b2, 0, none⟩)), (4, .pointer (some ⟨b3, 0, none⟩)), (9, .int .i64 (x1)), (10, .int .i64 (x2))] a' ∧ Cl w' b1 58 [.int .i64 (p0_0), .int .i64 (p0_1), .int .i64 (p0_2), .int .i64 (p0_3), .int .i64 (p0_4)] ∧ Cl w' b2 58 [.int .i64 (p1_0), .int .i64 (p1_1), .int .i64 (p1_2), .int .i64 (p1_3), .int .i64 (p1_4)] ∧ Cl w' b3 58 [.int .i64 (0), .int .i64 (0), .int .i64 (0), .int .i64 (0), .int .i64 (0)] ∧ Chg [] w0 w' ∧ w0.heap.size ≤ w'.heap.size) ?_ ?_
 ·have hm := hs1
  refine cW_seq ?_
  refine cW_region ?_
  refine wS_pure 3 [(24, .bool (decide ((wr (p1_4 - p0_4)) > y1))), (23, .int .i64 (y1)), (22, .int .i64 (wr (p1_4 - p0_4)))] (by kernel_rfl) ?_
  refine wS_end (by rfl) ?_
  refine eX_then ?_
  refine cW_prune [(2, .pointer (some ⟨b1, 0, none⟩)), (3, .pointer (some ⟨b2, 0, none⟩)), (4, .pointer (some ⟨b3, 0, none⟩)), (7, .int .i64 (y1)), (8, .int .i64 (wr (p1_4 - p0_4))), (9, .int .i64 (0)), (10, .int .i64 (0)), (24, .bool (decide ((wr (p1_4 - p0_4)) > y1)))] (by kernel_rfl) (by kernel_rfl) (fun a1 => ?_)
  refine cW_cond (t := decide ((wr (p1_4 - p0_4)) > y1)) (by kernel_rfl) (fun hb1 => ?_) (fun hb1 => ?_)
  ·have hm := condT hb1 hm
   refine cW_region ?_
   refine wS_pure 2 [(9, .int .i64 (wr (p1_4 - p0_4))), (25, .int .i64 (wr (p1_4 - p0_4)))] (by kernel_rfl) ?_
   refine wS_end (by rfl) ?_
   have hq : (some ((wr (p1_4 - p0_4), 0)) : Option (Int × Int)) = some _ := hm
   replace hq := someE hq
   subst hq
   exact eX_J (fun hst => ⟨wr (p1_4 - p0_4), 0, rfl, Fr.of hst (by kernel_rfl), F1, F2, F3, hB, hZ⟩)
  ·have hm := condF hb1 hm
   refine cW_seq ?_
   refine cW_region ?_
   refine wS_pure 4 [(29, .bool (decide ((wr (p1_4 - p0_4)) < (wr (0 - y1))))), (28, .int .i64 (wr (0 - y1))), (27, .int .i64 (y1)), (26, .int .i64 (wr (p1_4 - p0_4)))] (by kernel_rfl) ?_
   refine wS_end (by rfl) ?_
   refine eX_then ?_
   refine cW_cond (t := decide ((wr (p1_4 - p0_4)) < (wr (0 - y1)))) (by kernel_rfl) (fun hb2 => ?_) (fun hb2 => ?_)
   ·have hm := condT hb2 hm
    refine cW_region ?_
    refine wS_pure 3 [(10, .int .i64 (wr (0 - (wr (p1_4 - p0_4))))), (31, .int .i64 (wr (0 - (wr (p1_4 - p0_4))))), (30, .int .i64 (wr (p1_4 - p0_4)))] (by kernel_rfl) ?_
    refine wS_end (by rfl) ?_
    have hq : (some ((0, wr (0 - (wr (p1_4 - p0_4))))) : Option (Int × Int)) = some _ := hm
    replace hq := someE hq
    subst hq
    exact eX_J (fun hst => ⟨0, wr (0 - (wr (p1_4 - p0_4))), rfl, Fr.of hst (by kernel_rfl), F1, F2, F3, hB, hZ⟩)
   ·have hm := condF hb2 hm
    refine cW_seq ?_
    refine cW_region ?_
    refine wS_pure 5 [(9, .int .i64 (wr (Int.tdiv (wr (y1 + (wr (p1_4 - p0_4)))) 2))), (35, .int .i64 (wr (Int.tdiv (wr (y1 + (wr (p1_4 - p0_4)))) 2))), (34, .int .i64 (wr (y1 + (wr (p1_4 - p0_4))))), (33, .int .i64 (wr (p1_4 - p0_4))), (32, .int .i64 (y1))] (by kernel_rfl) ?_
    refine wS_end (by rfl) ?_
    refine eX_then ?_
    refine cW_region ?_
    refine wS_pure 4 [(10, .int .i64 (wr (y1 - (wr (Int.tdiv (wr (y1 + (wr (p1_4 - p0_4)))) 2))))), (38, .int .i64 (wr (y1 - (wr (Int.tdiv (wr (y1 + (wr (p1_4 - p0_4)))) 2))))), (37, .int .i64 (wr (Int.tdiv (wr (y1 + (wr (p1_4 - p0_4)))) 2))), (36, .int .i64 (y1))] (by kernel_rfl) ?_
    refine wS_end (by rfl) ?_
    have hq : (some ((wr (Int.tdiv (wr (y1 + (wr (p1_4 - p0_4)))) 2), wr (y1 - (wr (Int.tdiv (wr (y1 + (wr (p1_4 - p0_4)))) 2))))) : Option (Int × Int)) = some _ := hm
    replace hq := someE hq
    subst hq
    exact eX_J (fun hst => ⟨wr (Int.tdiv (wr (y1 + (wr (p1_4 - p0_4)))) 2), wr (y1 - (wr (Int.tdiv (wr (y1 + (wr (p1_4 - p0_4)))) 2))), rfl, Fr.of hst (by kernel_rfl), F1, F2, F3, hB, hZ⟩)
 ·rintro a' w5 ⟨x1, x2, hJ, hF1, F4, F5, F6, hB, hZ⟩
  subst hJ
  refine Fr.goX hF1 (by kernel_rfl) ?_
  refine eX_then ?_
  refine cW_seq ?_
  obtain ⟨s2, hs2, hm⟩ := bindE hm
  refine cW_cut (fun a' w' => ∃ b4 : Nat, ∃ x3 : Int, ∃ x4 : Int, ∃ x5 : Int, ∃ x6 : Int, (x3, x4, x5, x6) = s2 ∧ Fr 56 [(2, .pointer (some ⟨b1, 0, none⟩)), (4, .pointer (some ⟨b3, 0, none⟩)), (9, .int .i64 (x1)), (10, .int .i64 (x2)), (11, .pointer (some ⟨b4, 0, none⟩))] a' ∧ Cl w' b1 58 [.int .i64 (p0_0), .int .i64 (p0_1), .int .i64 (p0_2), .int .i64 (p0_3), .int .i64 (p0_4)] ∧ Cl w' b3 58 [.int .i64 (0), .int .i64 (0), .int .i64 (0), .int .i64 (0), .int .i64 (0)] ∧ Cl w' b4 55 [.int .i64 (x3), .int .i64 (x4), .int .i64 (x5), .int .i64 (x6)] ∧ w0.heap.size ≤ b4 ∧ Dj [b1] [b4] ∧ Dj [b3] [b4] ∧ Chg [] w0 w' ∧ w0.heap.size ≤ w'.heap.size) ?_ ?_
  ·have hm := hs2
   refine cW_drawnTail [] 10 (by kernel_rfl) (by kernel_rfl) (fun w6 hc5 => ?_)
   replace F4 := F4.chg hc5 notNil
   replace F5 := F5.chg hc5 notNil
   replace F6 := F6.chg hc5 notNil
   replace hB := hB.inS hc5 inNil
   replace hZ := Nat.le_trans hZ hc5.size
   have hS := Chg.refl [] w6
   have Z1 := F4
   have Z2 := F5
   have Z3 := F6
   refine wH_take [0] [0] [(39, .pointer (some ⟨b1, 0, none⟩))] (by kernel_rfl) (qT (qT (qT qZ))) (by kernel_rfl) ?_
   refine wH_loadA (i := 1) (d := 40) (T := 55) (ad := ⟨b1, 0, none⟩) (vs := [.int .i64 (p0_0), .int .i64 (p0_1), .int .i64 (p0_2), .int .i64 (p0_3)]) (by kernel_rfl) (qT (qT (qT qZ))) (by kernel_rfl) (by kernel_rfl) vt55 (fun W hW i u hu => box_cells (Z1.chg hW notNil) 0 hu (by rfl)) ?_
   refine wH_take [2, 4] [4, 2, 1, 0] [(43, .pointer (some ⟨b2, 0, none⟩)), (41, .int .i64 (x1))] (by kernel_rfl) (qT (qT (qT qZ))) (by kernel_rfl) ?_
   refine wH_loadA (i := 5) (d := 44) (T := 55) (ad := ⟨b2, 0, none⟩) (vs := [.int .i64 (p1_0), .int .i64 (p1_1), .int .i64 (p1_2), .int .i64 (p1_3)]) (by kernel_rfl) (qT (qT (qT qZ))) (by kernel_rfl) (by kernel_rfl) vt55 (fun W hW i u hu => box_cells (Z2.chg hW notNil) 0 hu (by rfl)) ?_
   refine wH_take [6] [6, 5, 4, 2, 1, 0] [(45, .int .i64 (x2))] (by kernel_rfl) (qT (qT (qT qZ))) (by kernel_rfl) ?_
   refine wH_all [3, 9] (by rfl) (by kernel_rfl) (by simp) ⟨⟨by kernel_rfl, ?_⟩, ⟨by kernel_rfl, ?_⟩, trivial⟩
   ·skip
    obtain ⟨y2, hy2, hm⟩ := bindE hm
    refine wS_calls (d := 42) (f := 64) (vs := [.agg #[.int .i64 (p0_0), .int .i64 (p0_1), .int .i64 (p0_2), .int .i64 (p0_3)], .int .i64 (x1)]) (by kernel_rfl) ent64 (c_spec_l06Grow hy2) ?_
    rintro _ w7 ⟨rfl, hc6⟩
    replace F4 := F4.chg hc6 notNil
    replace F5 := F5.chg hc6 notNil
    replace F6 := F6.chg hc6 notNil
    replace hB := hB.inS hc6 inNil
    have hSz := hS
    replace hS := hS.inS hc6 inNil
    replace hZ := Nat.le_trans hZ hc6.size
    refine ⟨.agg #[.int .i64 (y2.1), .int .i64 (y2.2.1), .int .i64 (y2.2.2.1), .int .i64 (y2.2.2.2)], rfl, ?_⟩
    refine wS_end (by kernel_rfl) ?_
    refine eX_KH hS ?_
    refine wH_all [7, 9] (by rfl) (by kernel_rfl) (by simp) ⟨⟨by kernel_rfl, ?_⟩, ⟨by kernel_rfl, ?_⟩, trivial⟩
    ·skip
     obtain ⟨y3, hy3, hm⟩ := bindE hm
     refine wS_calls (d := 46) (f := 64) (vs := [.agg #[.int .i64 (p1_0), .int .i64 (p1_1), .int .i64 (p1_2), .int .i64 (p1_3)], .int .i64 (x2)]) (by kernel_rfl) ent64 (c_spec_l06Grow hy3) ?_
     rintro _ w8 ⟨rfl, hc7⟩
     replace F4 := F4.chg hc7 notNil
     replace F5 := F5.chg hc7 notNil
     replace F6 := F6.chg hc7 notNil
     replace hB := hB.inS hc7 inNil
     have hSz := hS
     replace hS := hS.inS hc7 inNil
     replace hZ := Nat.le_trans hZ hc7.size
     refine ⟨.agg #[.int .i64 (y3.1), .int .i64 (y3.2.1), .int .i64 (y3.2.2.1), .int .i64 (y3.2.2.2)], rfl, ?_⟩
     refine wS_end (by kernel_rfl) ?_
     refine eX_KH hS ?_
     refine wH_all [8, 9] (by rfl) (by kernel_rfl) (by simp) ⟨⟨by kernel_rfl, ?_⟩, ⟨by kernel_rfl, ?_⟩, trivial⟩
     ·skip
      obtain ⟨y4, hy4, hm⟩ := bindE hm
      refine wS_calls (d := 47) (f := 63) (vs := [.agg #[.int .i64 (y2.1), .int .i64 (y2.2.1), .int .i64 (y2.2.2.1), .int .i64 (y2.2.2.2)], .agg #[.int .i64 (y3.1), .int .i64 (y3.2.1), .int .i64 (y3.2.2.1), .int .i64 (y3.2.2.2)]]) (by kernel_rfl) ent63 (c_spec_l06Meet hy4) ?_
      rintro _ w9 ⟨rfl, hc8⟩
      replace F4 := F4.chg hc8 notNil
      replace F5 := F5.chg hc8 notNil
      replace F6 := F6.chg hc8 notNil
      replace hB := hB.inS hc8 inNil
      have hSz := hS
      replace hS := hS.inS hc8 inNil
      replace hZ := Nat.le_trans hZ hc8.size
      refine ⟨.agg #[.int .i64 (y4.1), .int .i64 (y4.2.1), .int .i64 (y4.2.2.1), .int .i64 (y4.2.2.2)], rfl, ?_⟩
      refine wS_end (by kernel_rfl) ?_
      refine eX_KH hS ?_
      refine wH_all [9] (by rfl) (by kernel_rfl) (by simp) ⟨⟨by kernel_rfl, ?_⟩, trivial⟩
      refine wS_alloc (d := 11) (T := 55) (z := .agg #[.int .i64 (0), .int .i64 (0), .int .i64 (0), .int .i64 (0)]) (by kernel_rfl) (by kernel_rfl) ?_
      intro b5 w10 G4 F7 hc9
      replace F7 : Cl w10 b5 55 [.int .i64 (0), .int .i64 (0), .int .i64 (0), .int .i64 (0)] := F7
      have D4 : Dj [b1] [b5] := Dj.of (lt1 F4.lt) (low1 G4)
      have D5 : Dj [b2] [b5] := Dj.of (lt1 F5.lt) (low1 G4)
      have D6 : Dj [b3] [b5] := Dj.of (lt1 F6.lt) (low1 G4)
      replace F4 := F4.chg hc9 notNil
      replace F5 := F5.chg hc9 notNil
      replace F6 := F6.chg hc9 notNil
      replace hB := hB.inS hc9 inNil
      have hSz := hS
      replace hS := hS.inS hc9 inNil
      have Gz1 := low1 (Nat.le_trans hSz.size G4)
      replace G4 := Nat.le_trans hZ G4
      replace hZ := Nat.le_trans hZ hc9.size
      refine wS_end (by kernel_rfl) ?_
      refine eX_KH hS ?_
      refine wH_done (by kernel_rfl) ?_
      refine eX_tail ?_
      refine wS_store (T := 55) (g := b5) (o := 0) (ad := ⟨b5, 0, none⟩) (v := .agg #[.int .i64 (y4.1), .int .i64 (y4.2.1), .int .i64 (y4.2.2.1), .int .i64 (y4.2.2.2)]) (vs := [.int .i64 (y4.1), .int .i64 (y4.2.1), .int .i64 (y4.2.2.1), .int .i64 (y4.2.2.2)]) (by kernel_rfl) (by rfl) sz55 (by rfl) (by rfl) F7 (by simp only [List.length_cons, List.length_nil]; omega) ?_
      intro w11 F8 hc10
      replace F4 := F4.chg hc10 (dj1 D4)
      replace F5 := F5.chg hc10 (dj1 D5)
      replace F6 := F6.chg hc10 (dj1 D6)
      replace hB := hB.inS hc10 (inLow (low1 G4))
      replace hZ := Nat.le_trans hZ hc10.size
      replace F8 : Cl w11 b5 55 [.int .i64 (y4.1), .int .i64 (y4.2.1), .int .i64 (y4.2.2.1), .int .i64 (y4.2.2.2)] := F8
      clear F7
      refine wS_end (by rfl) ?_
      have hq : (some ((y4.1, y4.2.1, y4.2.2.1, y4.2.2.2)) : Option (Int × Int × Int × Int)) = some _ := hm
      replace hq := someE hq
      subst hq
      exact eX_J (fun hst => ⟨b5, y4.1, y4.2.1, y4.2.2.1, y4.2.2.2, rfl, Fr.of hst (by kernel_rfl), F4, F6, F8, G4, D4, D6, hB, hZ⟩)
     ·skip
      refine wS_alloc (d := 11) (T := 55) (z := .agg #[.int .i64 (0), .int .i64 (0), .int .i64 (0), .int .i64 (0)]) (by kernel_rfl) (by kernel_rfl) ?_
      intro b6 w12 G5 F9 hc11
      replace F9 : Cl w12 b6 55 [.int .i64 (0), .int .i64 (0), .int .i64 (0), .int .i64 (0)] := F9
      have D7 : Dj [b1] [b6] := Dj.of (lt1 F4.lt) (low1 G5)
      have D8 : Dj [b2] [b6] := Dj.of (lt1 F5.lt) (low1 G5)
      have D9 : Dj [b3] [b6] := Dj.of (lt1 F6.lt) (low1 G5)
      replace F4 := F4.chg hc11 notNil
      replace F5 := F5.chg hc11 notNil
      replace F6 := F6.chg hc11 notNil
      replace hB := hB.inS hc11 inNil
      have hSz := hS
      replace hS := hS.inS hc11 inNil
      have Gz2 := low1 (Nat.le_trans hSz.size G5)
      replace G5 := Nat.le_trans hZ G5
      replace hZ := Nat.le_trans hZ hc11.size
      refine wS_end (by kernel_rfl) ?_
      refine eX_KH hS ?_
      refine wH_all [8] (by rfl) (by kernel_rfl) (by simp) ⟨⟨by kernel_rfl, ?_⟩, trivial⟩
      obtain ⟨y5, hy5, hm⟩ := bindE hm
      refine wS_calls (d := 47) (f := 63) (vs := [.agg #[.int .i64 (y2.1), .int .i64 (y2.2.1), .int .i64 (y2.2.2.1), .int .i64 (y2.2.2.2)], .agg #[.int .i64 (y3.1), .int .i64 (y3.2.1), .int .i64 (y3.2.2.1), .int .i64 (y3.2.2.2)]]) (by kernel_rfl) ent63 (c_spec_l06Meet hy5) ?_
      rintro _ w13 ⟨rfl, hc12⟩
      replace F4 := F4.chg hc12 notNil
      replace F5 := F5.chg hc12 notNil
      replace F6 := F6.chg hc12 notNil
      replace F9 := F9.chg hc12 notNil
      replace hB := hB.inS hc12 inNil
      have hSz := hS
      replace hS := hS.inS hc12 inNil
      replace hZ := Nat.le_trans hZ hc12.size
      refine ⟨.agg #[.int .i64 (y5.1), .int .i64 (y5.2.1), .int .i64 (y5.2.2.1), .int .i64 (y5.2.2.2)], rfl, ?_⟩
      refine wS_end (by kernel_rfl) ?_
      refine eX_KH hS ?_
      refine wH_done (by kernel_rfl) ?_
      refine eX_tail ?_
      refine wS_store (T := 55) (g := b6) (o := 0) (ad := ⟨b6, 0, none⟩) (v := .agg #[.int .i64 (y5.1), .int .i64 (y5.2.1), .int .i64 (y5.2.2.1), .int .i64 (y5.2.2.2)]) (vs := [.int .i64 (y5.1), .int .i64 (y5.2.1), .int .i64 (y5.2.2.1), .int .i64 (y5.2.2.2)]) (by kernel_rfl) (by rfl) sz55 (by rfl) (by rfl) F9 (by simp only [List.length_cons, List.length_nil]; omega) ?_
      intro w14 F10 hc13
      replace F4 := F4.chg hc13 (dj1 D7)
      replace F5 := F5.chg hc13 (dj1 D8)
      replace F6 := F6.chg hc13 (dj1 D9)
      replace hB := hB.inS hc13 (inLow (low1 G5))
      replace hZ := Nat.le_trans hZ hc13.size
      replace F10 : Cl w14 b6 55 [.int .i64 (y5.1), .int .i64 (y5.2.1), .int .i64 (y5.2.2.1), .int .i64 (y5.2.2.2)] := F10
      clear F9
      refine wS_end (by rfl) ?_
      have hq : (some ((y5.1, y5.2.1, y5.2.2.1, y5.2.2.2)) : Option (Int × Int × Int × Int)) = some _ := hm
      replace hq := someE hq
      subst hq
      exact eX_J (fun hst => ⟨b6, y5.1, y5.2.1, y5.2.2.1, y5.2.2.2, rfl, Fr.of hst (by kernel_rfl), F4, F6, F10, G5, D7, D9, hB, hZ⟩)
    ·skip
     refine wS_alloc (d := 11) (T := 55) (z := .agg #[.int .i64 (0), .int .i64 (0), .int .i64 (0), .int .i64 (0)]) (by kernel_rfl) (by kernel_rfl) ?_
     intro b7 w15 G6 F11 hc14
     replace F11 : Cl w15 b7 55 [.int .i64 (0), .int .i64 (0), .int .i64 (0), .int .i64 (0)] := F11
     have D10 : Dj [b1] [b7] := Dj.of (lt1 F4.lt) (low1 G6)
     have D11 : Dj [b2] [b7] := Dj.of (lt1 F5.lt) (low1 G6)
     have D12 : Dj [b3] [b7] := Dj.of (lt1 F6.lt) (low1 G6)
     replace F4 := F4.chg hc14 notNil
     replace F5 := F5.chg hc14 notNil
     replace F6 := F6.chg hc14 notNil
     replace hB := hB.inS hc14 inNil
     have hSz := hS
     replace hS := hS.inS hc14 inNil
     have Gz3 := low1 (Nat.le_trans hSz.size G6)
     replace G6 := Nat.le_trans hZ G6
     replace hZ := Nat.le_trans hZ hc14.size
     refine wS_end (by kernel_rfl) ?_
     refine eX_KH hS ?_
     refine wH_all [7] (by rfl) (by kernel_rfl) (by simp) ⟨⟨by kernel_rfl, ?_⟩, trivial⟩
     obtain ⟨y6, hy6, hm⟩ := bindE hm
     refine wS_calls (d := 46) (f := 64) (vs := [.agg #[.int .i64 (p1_0), .int .i64 (p1_1), .int .i64 (p1_2), .int .i64 (p1_3)], .int .i64 (x2)]) (by kernel_rfl) ent64 (c_spec_l06Grow hy6) ?_
     rintro _ w16 ⟨rfl, hc15⟩
     replace F4 := F4.chg hc15 notNil
     replace F5 := F5.chg hc15 notNil
     replace F6 := F6.chg hc15 notNil
     replace F11 := F11.chg hc15 notNil
     replace hB := hB.inS hc15 inNil
     have hSz := hS
     replace hS := hS.inS hc15 inNil
     replace hZ := Nat.le_trans hZ hc15.size
     refine ⟨.agg #[.int .i64 (y6.1), .int .i64 (y6.2.1), .int .i64 (y6.2.2.1), .int .i64 (y6.2.2.2)], rfl, ?_⟩
     refine wS_end (by kernel_rfl) ?_
     refine eX_KH hS ?_
     refine wH_all [8] (by rfl) (by kernel_rfl) (by simp) ⟨⟨by kernel_rfl, ?_⟩, trivial⟩
     obtain ⟨y7, hy7, hm⟩ := bindE hm
     refine wS_calls (d := 47) (f := 63) (vs := [.agg #[.int .i64 (y2.1), .int .i64 (y2.2.1), .int .i64 (y2.2.2.1), .int .i64 (y2.2.2.2)], .agg #[.int .i64 (y6.1), .int .i64 (y6.2.1), .int .i64 (y6.2.2.1), .int .i64 (y6.2.2.2)]]) (by kernel_rfl) ent63 (c_spec_l06Meet hy7) ?_
     rintro _ w17 ⟨rfl, hc16⟩
     replace F4 := F4.chg hc16 notNil
     replace F5 := F5.chg hc16 notNil
     replace F6 := F6.chg hc16 notNil
     replace F11 := F11.chg hc16 notNil
     replace hB := hB.inS hc16 inNil
     have hSz := hS
     replace hS := hS.inS hc16 inNil
     replace hZ := Nat.le_trans hZ hc16.size
     refine ⟨.agg #[.int .i64 (y7.1), .int .i64 (y7.2.1), .int .i64 (y7.2.2.1), .int .i64 (y7.2.2.2)], rfl, ?_⟩
     refine wS_end (by kernel_rfl) ?_
     refine eX_KH hS ?_
     refine wH_done (by kernel_rfl) ?_
     refine eX_tail ?_
     refine wS_store (T := 55) (g := b7) (o := 0) (ad := ⟨b7, 0, none⟩) (v := .agg #[.int .i64 (y7.1), .int .i64 (y7.2.1), .int .i64 (y7.2.2.1), .int .i64 (y7.2.2.2)]) (vs := [.int .i64 (y7.1), .int .i64 (y7.2.1), .int .i64 (y7.2.2.1), .int .i64 (y7.2.2.2)]) (by kernel_rfl) (by rfl) sz55 (by rfl) (by rfl) F11 (by simp only [List.length_cons, List.length_nil]; omega) ?_
     intro w18 F12 hc17
     replace F4 := F4.chg hc17 (dj1 D10)
     replace F5 := F5.chg hc17 (dj1 D11)
     replace F6 := F6.chg hc17 (dj1 D12)
     replace hB := hB.inS hc17 (inLow (low1 G6))
     replace hZ := Nat.le_trans hZ hc17.size
     replace F12 : Cl w18 b7 55 [.int .i64 (y7.1), .int .i64 (y7.2.1), .int .i64 (y7.2.2.1), .int .i64 (y7.2.2.2)] := F12
     clear F11
     refine wS_end (by rfl) ?_
     have hq : (some ((y7.1, y7.2.1, y7.2.2.1, y7.2.2.2)) : Option (Int × Int × Int × Int)) = some _ := hm
     replace hq := someE hq
     subst hq
     exact eX_J (fun hst => ⟨b7, y7.1, y7.2.1, y7.2.2.1, y7.2.2.2, rfl, Fr.of hst (by kernel_rfl), F4, F6, F12, G6, D10, D12, hB, hZ⟩)
   ·skip
    refine wS_alloc (d := 11) (T := 55) (z := .agg #[.int .i64 (0), .int .i64 (0), .int .i64 (0), .int .i64 (0)]) (by kernel_rfl) (by kernel_rfl) ?_
    intro b8 w19 G7 F13 hc18
    replace F13 : Cl w19 b8 55 [.int .i64 (0), .int .i64 (0), .int .i64 (0), .int .i64 (0)] := F13
    have D13 : Dj [b1] [b8] := Dj.of (lt1 F4.lt) (low1 G7)
    have D14 : Dj [b2] [b8] := Dj.of (lt1 F5.lt) (low1 G7)
    have D15 : Dj [b3] [b8] := Dj.of (lt1 F6.lt) (low1 G7)
    replace F4 := F4.chg hc18 notNil
    replace F5 := F5.chg hc18 notNil
    replace F6 := F6.chg hc18 notNil
    replace hB := hB.inS hc18 inNil
    have hSz := hS
    replace hS := hS.inS hc18 inNil
    have Gz4 := low1 (Nat.le_trans hSz.size G7)
    replace G7 := Nat.le_trans hZ G7
    replace hZ := Nat.le_trans hZ hc18.size
    refine wS_end (by kernel_rfl) ?_
    refine eX_KH hS ?_
    refine wH_all [3] (by rfl) (by kernel_rfl) (by simp) ⟨⟨by kernel_rfl, ?_⟩, trivial⟩
    obtain ⟨y8, hy8, hm⟩ := bindE hm
    refine wS_calls (d := 42) (f := 64) (vs := [.agg #[.int .i64 (p0_0), .int .i64 (p0_1), .int .i64 (p0_2), .int .i64 (p0_3)], .int .i64 (x1)]) (by kernel_rfl) ent64 (c_spec_l06Grow hy8) ?_
    rintro _ w20 ⟨rfl, hc19⟩
    replace F4 := F4.chg hc19 notNil
    replace F5 := F5.chg hc19 notNil
    replace F6 := F6.chg hc19 notNil
    replace F13 := F13.chg hc19 notNil
    replace hB := hB.inS hc19 inNil
    have hSz := hS
    replace hS := hS.inS hc19 inNil
    replace hZ := Nat.le_trans hZ hc19.size
    refine ⟨.agg #[.int .i64 (y8.1), .int .i64 (y8.2.1), .int .i64 (y8.2.2.1), .int .i64 (y8.2.2.2)], rfl, ?_⟩
    refine wS_end (by kernel_rfl) ?_
    refine eX_KH hS ?_
    refine wH_all [7] (by rfl) (by kernel_rfl) (by simp) ⟨⟨by kernel_rfl, ?_⟩, trivial⟩
    obtain ⟨y9, hy9, hm⟩ := bindE hm
    refine wS_calls (d := 46) (f := 64) (vs := [.agg #[.int .i64 (p1_0), .int .i64 (p1_1), .int .i64 (p1_2), .int .i64 (p1_3)], .int .i64 (x2)]) (by kernel_rfl) ent64 (c_spec_l06Grow hy9) ?_
    rintro _ w21 ⟨rfl, hc20⟩
    replace F4 := F4.chg hc20 notNil
    replace F5 := F5.chg hc20 notNil
    replace F6 := F6.chg hc20 notNil
    replace F13 := F13.chg hc20 notNil
    replace hB := hB.inS hc20 inNil
    have hSz := hS
    replace hS := hS.inS hc20 inNil
    replace hZ := Nat.le_trans hZ hc20.size
    refine ⟨.agg #[.int .i64 (y9.1), .int .i64 (y9.2.1), .int .i64 (y9.2.2.1), .int .i64 (y9.2.2.2)], rfl, ?_⟩
    refine wS_end (by kernel_rfl) ?_
    refine eX_KH hS ?_
    refine wH_all [8] (by rfl) (by kernel_rfl) (by simp) ⟨⟨by kernel_rfl, ?_⟩, trivial⟩
    obtain ⟨y10, hy10, hm⟩ := bindE hm
    refine wS_calls (d := 47) (f := 63) (vs := [.agg #[.int .i64 (y8.1), .int .i64 (y8.2.1), .int .i64 (y8.2.2.1), .int .i64 (y8.2.2.2)], .agg #[.int .i64 (y9.1), .int .i64 (y9.2.1), .int .i64 (y9.2.2.1), .int .i64 (y9.2.2.2)]]) (by kernel_rfl) ent63 (c_spec_l06Meet hy10) ?_
    rintro _ w22 ⟨rfl, hc21⟩
    replace F4 := F4.chg hc21 notNil
    replace F5 := F5.chg hc21 notNil
    replace F6 := F6.chg hc21 notNil
    replace F13 := F13.chg hc21 notNil
    replace hB := hB.inS hc21 inNil
    have hSz := hS
    replace hS := hS.inS hc21 inNil
    replace hZ := Nat.le_trans hZ hc21.size
    refine ⟨.agg #[.int .i64 (y10.1), .int .i64 (y10.2.1), .int .i64 (y10.2.2.1), .int .i64 (y10.2.2.2)], rfl, ?_⟩
    refine wS_end (by kernel_rfl) ?_
    refine eX_KH hS ?_
    refine wH_done (by kernel_rfl) ?_
    refine eX_tail ?_
    refine wS_store (T := 55) (g := b8) (o := 0) (ad := ⟨b8, 0, none⟩) (v := .agg #[.int .i64 (y10.1), .int .i64 (y10.2.1), .int .i64 (y10.2.2.1), .int .i64 (y10.2.2.2)]) (vs := [.int .i64 (y10.1), .int .i64 (y10.2.1), .int .i64 (y10.2.2.1), .int .i64 (y10.2.2.2)]) (by kernel_rfl) (by rfl) sz55 (by rfl) (by rfl) F13 (by simp only [List.length_cons, List.length_nil]; omega) ?_
    intro w23 F14 hc22
    replace F4 := F4.chg hc22 (dj1 D13)
    replace F5 := F5.chg hc22 (dj1 D14)
    replace F6 := F6.chg hc22 (dj1 D15)
    replace hB := hB.inS hc22 (inLow (low1 G7))
    replace hZ := Nat.le_trans hZ hc22.size
    replace F14 : Cl w23 b8 55 [.int .i64 (y10.1), .int .i64 (y10.2.1), .int .i64 (y10.2.2.1), .int .i64 (y10.2.2.2)] := F14
    clear F13
    refine wS_end (by rfl) ?_
    have hq : (some ((y10.1, y10.2.1, y10.2.2.1, y10.2.2.2)) : Option (Int × Int × Int × Int)) = some _ := hm
    replace hq := someE hq
    subst hq
    exact eX_J (fun hst => ⟨b8, y10.1, y10.2.1, y10.2.2.1, y10.2.2.2, rfl, Fr.of hst (by kernel_rfl), F4, F6, F14, G7, D13, D15, hB, hZ⟩)
  ·rintro a' w24 ⟨b4, x3, x4, x5, x6, hJ, hF2, F15, F16, F17, G8, D16, D17, hB, hZ⟩
   subst hJ
   refine Fr.goX hF2 (by kernel_rfl) ?_
   refine eX_then ?_
   refine cW_seq ?_
   refine cW_region ?_
   refine wS_loadA (d := 48) (T := 55) (ad := ⟨b4, 0, none⟩) (vs := [.int .i64 (x3), .int .i64 (x4), .int .i64 (x5), .int .i64 (x6)]) (by kernel_rfl) vt55 (fun i u hu => box_cells F17 0 hu (by rfl)) ?_
   refine wS_pure 1 [(49, .pointer (some ⟨b1, 4, none⟩))] (by kernel_rfl) ?_
   refine wS_load1 (d := 50) (T := 2) (ad := ⟨b1, 4, none⟩) (v := .int .i64 (p0_4)) (by kernel_rfl) vt2 ((F15).cell 4) ?_
   refine wS_pure 5 [(55, .int .i64 (x2)), (54, .int .i64 (x1)), (53, .agg #[.int .i64 (x3), .int .i64 (x4), .int .i64 (x5), .int .i64 (x6), .int .i64 (wr (p0_4 + x1))]), (52, .int .i64 (wr (p0_4 + x1))), (51, .int .i64 (x1))] (by kernel_rfl) ?_
   refine wS_store (T := 58) (g := b3) (o := 0) (ad := ⟨b3, 0, none⟩) (v := .agg #[.int .i64 (x3), .int .i64 (x4), .int .i64 (x5), .int .i64 (x6), .int .i64 (wr (p0_4 + x1))]) (vs := [.int .i64 (x3), .int .i64 (x4), .int .i64 (x5), .int .i64 (x6), .int .i64 (wr (p0_4 + x1))]) (by kernel_rfl) (by rfl) sz58 (by rfl) (by rfl) F16 (by simp only [List.length_cons, List.length_nil]; omega) ?_
   intro w25 F18 hc23
   replace F15 := F15.chg hc23 (dj1 D2)
   replace F17 := F17.chg hc23 (dj1 (D17).symm)
   replace hB := hB.inS hc23 (inLow (low1 G3))
   replace hZ := Nat.le_trans hZ hc23.size
   replace F18 : Cl w25 b3 58 [.int .i64 (x3), .int .i64 (x4), .int .i64 (x5), .int .i64 (x6), .int .i64 (wr (p0_4 + x1))] := F18
   clear F16
   refine wS_pure 2 [(6, .int .i64 (x2)), (5, .int .i64 (x1))] (by kernel_rfl) ?_
   refine wS_end (by rfl) ?_
   refine eX_then ?_
   refine cW_ret ?_
   have hq : (some (((x3, x4, x5, x6, wr (p0_4 + x1)), x1, x2)) : Option ((Int × Int × Int × Int × Int) × (Int) × (Int))) = some _ := hm
   replace hq := someE hq
   subst hq
   refine eX_ret (vs := [.agg #[.int .i64 (x3), .int .i64 (x4), .int .i64 (x5), .int .i64 (x6), .int .i64 (wr (p0_4 + x1))], .int .i64 (x1), .int .i64 (x2)]) [.cell 4 58, .tmp 5, .tmp 6] (by rfl) ⟨⟨⟨b3, 0, none⟩, by kernel_rfl, run_loadVarA (vs := [.int .i64 (x3), .int .i64 (x4), .int .i64 (x5), .int .i64 (x6), .int .i64 (wr (p0_4 + x1))]) vt58 (fun i u hu => by exact box_cells F18 0 hu (by rfl))⟩, ⟨by (show lkE _ _ _ = _); kernel_rfl, ⟨by (show lkE _ _ _ = _); kernel_rfl, trivial⟩⟩⟩ ?_
   exact ⟨rfl, hB⟩

set_option maxRecDepth 100000 in
/-- spec.l06Tree -/
theorem c_spec_l06Tree {w0 : World} {l0 : List (Int × Int)} {A0 : Option Addr} {cap0 : Nat} {fp0 : List Nat} {l1 : List (List (Int))} {A1 : Option Addr} {cap1 : Nat} {fp1 : List Nat} {r : (List (Int × Int × Int × Int × Int)) × (List (Int))} (hm : m_spec_l06Tree l0 l1 = some r) (F0 : Sl 2 encII w0 fp0 A0 l0) (F1 : SlR 1 encI w0 fp1 A1 l1) :
  Calls Try.prog 53 #[.slice A0 (l0).length cap0, .slice A1 (l1).length cap1] w0 fun e w' => ∃ A100 cap100 fp100, ∃ A101 cap101 fp101, e = .returned (.tuple #[.slice A100 (r.1).length cap100, .slice A101 (r.2).length cap101]) ∧ Ow 5 encIIIII 58 w' fp100 A100 cap100 r.1 ∧ (∀ x ∈ fp100, w0.heap.size ≤ x) ∧ Ow 1 encI 2 w' fp101 A101 cap101 r.2 ∧ (∀ x ∈ fp101, w0.heap.size ≤ x) ∧ Dj fp100 fp101 ∧ Chg [] w0 w' := by
 have L0 := F0.low
 have L1 := F1.low
 have hB : Chg [] w0 w0 := Chg.refl _ _
 have hZ := Nat.le_refl w0.heap.size
 unfold m_spec_l06Tree at hm
 refine enterE (N := 89) Try.func53 (by rfl) Try.ntmps53 (by simp) [(0, .slice A0 (l0).length cap0), (1, .slice A1 (l1).length cap1)] (by rfl) (by kernel_rfl) (fun a => ?_)
 refine cW_seq ?_
 refine cW_region ?_
 refine wS_pure 2 [(5, .slice none 0 0), (4, .slice none 0 0)] (by kernel_rfl) ?_
 refine wS_end (by rfl) ?_
 refine eX_then ?_
 refine cW_seq ?_
 refine cW_region ?_
 refine wS_bs0 (α := Int × Int × Int × Int × Int) (enc := encIIIII) (d := 13) (t := 51) (T := 58) (by kernel_rfl) el51 ?_
 intro b1 w1 G1 F2 hc1
 replace F0 := F0.chg hc1 Dj.nil
 replace F1 := F1.chg hc1 Dj.nil
 replace hB := hB.inS hc1 inNil
 replace G1 := Nat.le_trans hZ G1
 replace G1 := low1 G1
 replace hZ := Nat.le_trans hZ hc1.size
 refine wS_pure 1 [(6, .slice (some ⟨b1, 0, none⟩) (([] : List (Int × Int × Int × Int × Int))).length 0)] (by kernel_rfl) ?_
 refine wS_end (by rfl) ?_
 refine eX_then ?_
 refine cW_seq ?_
 refine cW_region ?_
 refine wS_bs0 (α := Int) (enc := encI) (d := 14) (t := 32) (T := 2) (by kernel_rfl) el32 ?_
 intro b2 w2 G2 F3 hc2
 have D1 : Dj [b1] [b2] := Dj.of F2.low (low1 G2)
 replace F0 := F0.chg hc2 Dj.nil
 replace F1 := F1.chg hc2 Dj.nil
 replace F2 := F2.chg hc2 Dj.nil
 replace hB := hB.inS hc2 inNil
 replace G2 := Nat.le_trans hZ G2
 replace G2 := low1 G2
 replace hZ := Nat.le_trans hZ hc2.size
 refine wS_pure 1 [(7, .slice (some ⟨b2, 0, none⟩) (([] : List (Int))).length 0)] (by kernel_rfl) ?_
 refine wS_end (by rfl) ?_
 refine eX_then ?_
 refine cW_seq ?_
 refine cW_seq ?_
 refine cW_region ?_
 refine wS_pure 1 [(8, .int .i64 (0))] (by kernel_rfl) ?_
 refine wS_end (by rfl) ?_
 refine eX_then ?_
 obtain ⟨r1, hr1, hm⟩ := bindE hm
 have hm1 := hm
 refine cW_cut (fun a' w' => ∃ l3 : List (Int × Int × Int × Int × Int), ∃ A3 : Option Addr, ∃ cap3 : Nat, ∃ fp2 : List Nat, ∃ l4 : List (Int), ∃ A4 : Option Addr, ∃ cap4 : Nat, ∃ fp3 : List Nat, (l3, l4) = r1 ∧ Fr 89 [(1, .slice A1 (l1).length cap1), (6, .slice A3 (l3).length cap3), (7, .slice A4 (l4).length cap4)] a' ∧ SlR 1 encI w' fp1 A1 l1 ∧ Ow 5 encIIIII 58 w' fp2 A3 cap3 l3 ∧ Ow 1 encI 2 w' fp3 A4 cap4 l4 ∧ (∀ x ∈ fp2, w0.heap.size ≤ x) ∧ (∀ x ∈ fp3, w0.heap.size ≤ x) ∧ Dj fp3 fp2 ∧ Chg [] w0 w' ∧ w0.heap.size ≤ w'.heap.size) ?_ ?_
 ·refine cW_block ?_
  refine cW_loop _ (fun (s1 : (List (Int × Int × Int × Int × Int)) × (List (Int)) × Int) a' w' => ∃ l5 : List (Int × Int × Int × Int × Int), ∃ A5 : Option Addr, ∃ cap5 : Nat, ∃ fp4 : List Nat, ∃ l6 : List (Int), ∃ A6 : Option Addr, ∃ cap6 : Nat, ∃ fp5 : List Nat, ∃ x1 : Int, (l5, l6, x1) = s1 ∧ Fr 89 [(0, .slice A0 (l0).length cap0), (1, .slice A1 (l1).length cap1), (6, .slice A5 (l5).length cap5), (7, .slice A6 (l6).length cap6), (8, .int .i64 (x1))] a' ∧ Sl 2 encII w' fp0 A0 l0 ∧ SlR 1 encI w' fp1 A1 l1 ∧ Ow 5 encIIIII 58 w' fp4 A5 cap5 l5 ∧ Ow 1 encI 2 w' fp5 A6 cap6 l6 ∧ (∀ x ∈ fp4, w0.heap.size ≤ x) ∧ (∀ x ∈ fp5, w0.heap.size ≤ x) ∧ Dj fp5 fp4 ∧ Chg [] w0 w' ∧ w0.heap.size ≤ w'.heap.size) hr1 (fun hst => ⟨([] : List (Int × Int × Int × Int × Int)), (some ⟨b1, 0, none⟩), 0, [b1], ([] : List (Int)), (some ⟨b2, 0, none⟩), 0, [b2], 0, rfl, Fr.of hst (by kernel_rfl), F0, F1, F2, F3, G1, G2, (D1).symm, hB, hZ⟩) ?_
  rintro _ c1 a' w3 ⟨l5, A5, cap5, fp4, l6, A6, cap6, fp5, x1, rfl, hF1, F4, F5, F6, F7, G3, G4, D2, hB, hZ⟩ hx1
  refine Fr.goOn hF1 (by kernel_rfl) ?_
  have hm := hx1
  unfold m_spec_l06Tree_s1 at hm
  refine cW_seq ?_
  refine cW_seq ?_
  refine cW_region ?_
  refine wS_pure 4 [(18, .bool (decide (x1 < (((l0).length : Int))))), (17, .int .i64 (((l0).length : Int))), (16, .slice A0 (l0).length cap0), (15, .int .i64 (x1))] (by kernel_rfl) ?_
  refine wS_end (by rfl) ?_
  refine eX_then ?_
  refine cW_cond (t := decide (x1 < (((l0).length : Int)))) (by kernel_rfl) (fun hb1 => ?_) (fun hb1 => ?_)
  ·have hm := condT hb1 hm
   refine cW_skip ?_
   refine eX_then ?_
   refine cW_seq ?_
   refine cW_block ?_
   refine cW_seq ?_
   refine cW_region ?_
   refine wS_pure 3 [(23, .int .i64 (x1)), (22, .slice A0 (l0).length cap0), (21, .slice A5 (l5).length cap5)] (by kernel_rfl) ?_
   obtain ⟨x2, hx2, hm⟩ := bindE hm
   refine wS_idx (d := 24) (T := 24) (A := A0) (n := (l0).length) (cap := cap0) (kd := .i64) (m := x1) (by kernel_rfl) sl24 (F4.is hx2) ?_
   refine wS_loadA (d := 25) (T := 49) (ad := (elA A0 2 (x1) 0)) (vs := [.int .i64 (x2.1), .int .i64 (x2.2)]) (by kernel_rfl) vt49 (fun i u hu => Sl.cells_at F4 hx2 0 hu (by rfl)) ?_
   obtain ⟨y1, hy1, hm⟩ := bindE hm
   refine wS_calls (d := 26) (f := 60) (vs := [.agg #[.int .i64 (x2.1), .int .i64 (x2.2)]]) (by kernel_rfl) ent60 (c_spec_l06Leaf hy1) ?_
   rintro _ w4 ⟨rfl, hc3⟩
   replace F4 := F4.chg hc3 Dj.nil
   replace F5 := F5.chg hc3 Dj.nil
   replace F6 := F6.chg hc3 Dj.nil
   replace F7 := F7.chg hc3 Dj.nil
   replace hB := hB.inS hc3 inNil
   replace hZ := Nat.le_trans hZ hc3.size
   refine ⟨.agg #[.int .i64 (y1.1), .int .i64 (y1.2.1), .int .i64 (y1.2.2.1), .int .i64 (y1.2.2.2)], rfl, ?_⟩
   refine wS_pure 1 [(27, .agg #[.int .i64 (y1.1), .int .i64 (y1.2.1), .int .i64 (y1.2.2.1), .int .i64 (y1.2.2.2), .int .i64 (0)])] (by kernel_rfl) ?_
   refine wS_bs (enc := encIIIII) ([(y1.1, y1.2.1, y1.2.2.1, y1.2.2.2, 0)] : List (Int × Int × Int × Int × Int)) [.int .i64 (y1.1), .int .i64 (y1.2.1), .int .i64 (y1.2.2.1), .int .i64 (y1.2.2.2), .int .i64 (0)] (d := 28) (t := 51) (T := 58) (n := 1) (ps := [(0, .agg #[.int .i64 (y1.1), .int .i64 (y1.2.1), .int .i64 (y1.2.2.1), .int .i64 (y1.2.2.2), .int .i64 (0)])]) (by kernel_rfl) el51 encIIIII_ok (by rfl) (by omega) (by omega) (by kernel_rfl) (by rfl) ?_
   intro b3 w5 G5 F8 hc4
   have D3 : Dj fp4 [b3] := Dj.of F6.low (low1 G5)
   have D4 : Dj fp5 [b3] := Dj.of F7.low (low1 G5)
   replace F4 := F4.chg hc4 Dj.nil
   replace F5 := F5.chg hc4 Dj.nil
   replace F6 := F6.chg hc4 Dj.nil
   replace F7 := F7.chg hc4 Dj.nil
   replace hB := hB.inS hc4 inNil
   replace G5 := Nat.le_trans hZ G5
   replace G5 := low1 G5
   replace hZ := Nat.le_trans hZ hc4.size
   obtain ⟨_, hk1, hm⟩ := bindE hm
   replace hk1 := apE hk1
   refine wS_append (enc := encIIIII) (l := (l5 : List (Int × Int × Int × Int × Int))) (l2 := (([(y1.1, y1.2.1, y1.2.2.1, y1.2.2.2, 0)] : List (Int × Int × Int × Int × Int)) : List (Int × Int × Int × Int × Int))) (d := 29) (t := 51) (T := 58) (A := A5) (A2 := (some ⟨b3, 0, none⟩)) (cap := cap5) (cap2 := 1) (by kernel_rfl) el51 encIIIII_ok F6 (F8.sl encIIIII_ok) (by rfl) hk1 ?_
   intro w6 fp6 A7 cap7 F9 hc5 hp1
   have G6 := low_ap G3 hZ hp1
   have D5 : Dj fp5 fp6 := Dj.ap D2 F7.low hp1
   have D6 : Dj [b3] fp6 := Dj.ap (D3).symm F8.low hp1
   replace F4 := F4.chg hc5 (Dj.of L0 G3)
   replace F5 := F5.chg hc5 (Dj.of L1 G3)
   replace F7 := F7.chg hc5 D2
   replace F8 := F8.chg hc5 (D3).symm
   replace hB := hB.inS hc5 (inLow G3)
   replace hZ := Nat.le_trans hZ hc5.size
   refine wS_pure 1 [(6, .slice A7 (l5 ++ (([(y1.1, y1.2.1, y1.2.2.1, y1.2.2.2, 0)] : List (Int × Int × Int × Int × Int)))).length cap7)] (by kernel_rfl) ?_
   refine wS_end (by rfl) ?_
   refine eX_then ?_
   refine cW_region ?_
   refine wS_pure 1 [(30, .slice A6 (l6).length cap6)] (by kernel_rfl) ?_
   refine wS_bs (enc := encI) ([0] : List (Int)) [.int .i64 (0)] (d := 31) (t := 32) (T := 2) (n := 1) (ps := [(0, .int .i64 (0))]) (by kernel_rfl) el32 encI_ok (by rfl) (by omega) (by omega) (by kernel_rfl) (by rfl) ?_
   intro b4 w7 G7 F10 hc6
   have D7 : Dj fp5 [b4] := Dj.of F7.low (low1 G7)
   have D8 : Dj [b3] [b4] := Dj.of F8.low (low1 G7)
   have D9 : Dj fp6 [b4] := Dj.of F9.low (low1 G7)
   replace F4 := F4.chg hc6 Dj.nil
   replace F5 := F5.chg hc6 Dj.nil
   replace F7 := F7.chg hc6 Dj.nil
   replace F8 := F8.chg hc6 Dj.nil
   replace F9 := F9.chg hc6 Dj.nil
   replace hB := hB.inS hc6 inNil
   replace G7 := Nat.le_trans hZ G7
   replace G7 := low1 G7
   replace hZ := Nat.le_trans hZ hc6.size
   obtain ⟨_, hk2, hm⟩ := bindE hm
   replace hk2 := apE hk2
   refine wS_append (enc := encI) (l := (l6 : List (Int))) (l2 := (([0] : List (Int)) : List (Int))) (d := 32) (t := 32) (T := 2) (A := A6) (A2 := (some ⟨b4, 0, none⟩)) (cap := cap6) (cap2 := 1) (by kernel_rfl) el32 encI_ok F7 (F10.sl encI_ok) (by rfl) hk2 ?_
   intro w8 fp7 A8 cap8 F11 hc7 hp2
   have G8 := low_ap G4 hZ hp2
   have D10 : Dj [b3] fp7 := Dj.ap (D4).symm F8.low hp2
   have D11 : Dj fp6 fp7 := Dj.ap (D5).symm F9.low hp2
   have D12 : Dj [b4] fp7 := Dj.ap (D7).symm F10.low hp2
   replace F4 := F4.chg hc7 (Dj.of L0 G4)
   replace F5 := F5.chg hc7 (Dj.of L1 G4)
   replace F8 := F8.chg hc7 (D4).symm
   replace F9 := F9.chg hc7 (D5).symm
   replace F10 := F10.chg hc7 (D7).symm
   replace hB := hB.inS hc7 (inLow G4)
   replace hZ := Nat.le_trans hZ hc7.size
   refine wS_pure 1 [(7, .slice A8 (l6 ++ (([0] : List (Int)))).length cap8)] (by kernel_rfl) ?_
   refine wS_end (by rfl) ?_
   refine eX_block ?_
   refine eX_then ?_
   refine cW_region ?_
   refine wS_pure 3 [(8, .int .i64 (wr (x1 + 1))), (20, .int .i64 (wr (x1 + 1))), (19, .int .i64 (x1))] (by kernel_rfl) ?_
   refine wS_end (by rfl) ?_
   have hq : (some (Ctl.next ((l5 ++ (([(y1.1, y1.2.1, y1.2.2.1, y1.2.2.2, 0)] : List (Int × Int × Int × Int × Int))), l6 ++ (([0] : List (Int))), wr (x1 + 1)))) : Option (Ctl ((List (Int × Int × Int × Int × Int)) × (List (Int)) × Int) ((List (Int × Int × Int × Int × Int)) × (List (Int))))) = some _ := hm
   replace hq := someE hq
   subst hq
   exact eX_next hx1 (fun hst => ⟨l5 ++ (([(y1.1, y1.2.1, y1.2.2.1, y1.2.2.2, 0)] : List (Int × Int × Int × Int × Int))), A7, cap7, fp6, l6 ++ (([0] : List (Int))), A8, cap8, fp7, wr (x1 + 1), rfl, Fr.of hst (by kernel_rfl), F4, F5, F9, F11, G6, G8, (D11).symm, hB, hZ⟩)
  ·have hm := condF hb1 hm
   refine cW_exit ?_
   refine eX_then_exit ?_
   have hq : (some (Ctl.out ((l5, l6))) : Option (Ctl ((List (Int × Int × Int × Int × Int)) × (List (Int)) × Int) ((List (Int × Int × Int × Int × Int)) × (List (Int))))) = some _ := hm
   replace hq := someE hq
   subst hq
   refine eX_outX hx1 (fun hr2 => ?_)
   replace hr2 := hr2.symm
   subst hr2
   refine eX_block_hit ?_
   exact eX_J (fun hst => ⟨l5, A5, cap5, fp4, l6, A6, cap6, fp5, rfl, Fr.of hst (by kernel_rfl), F5, F6, F7, G3, G4, D2, hB, hZ⟩)
 ·rintro a' w9 ⟨l3, A3, cap3, fp2, l4, A4, cap4, fp3, hJ, hF2, F12, F13, F14, G9, G10, D13, hB, hZ⟩
  subst hJ
  refine Fr.goX hF2 (by kernel_rfl) ?_
  refine eX_then ?_
  refine cW_seq ?_
  refine cW_seq ?_
  refine cW_region ?_
  refine wS_pure 1 [(9, .int .i64 (0))] (by kernel_rfl) ?_
  refine wS_end (by rfl) ?_
  refine eX_then ?_
  obtain ⟨r2, hr3, hm⟩ := bindE hm
  have hm2 := hm
  refine cW_cut (fun a' w' => ∃ l7 : List (Int × Int × Int × Int × Int), ∃ A9 : Option Addr, ∃ cap9 : Nat, ∃ fp8 : List Nat, ∃ l8 : List (Int), ∃ A10 : Option Addr, ∃ cap10 : Nat, ∃ fp9 : List Nat, (l7, l8) = r2 ∧ Fr 89 [(6, .slice A9 (l7).length cap9), (7, .slice A10 (l8).length cap10)] a' ∧ Ow 5 encIIIII 58 w' fp8 A9 cap9 l7 ∧ Ow 1 encI 2 w' fp9 A10 cap10 l8 ∧ (∀ x ∈ fp8, w0.heap.size ≤ x) ∧ (∀ x ∈ fp9, w0.heap.size ≤ x) ∧ Dj fp9 fp8 ∧ Chg [] w0 w' ∧ w0.heap.size ≤ w'.heap.size) ?_ ?_
  ·refine cW_block ?_
   refine cW_loop _ (fun (s2 : (List (Int × Int × Int × Int × Int)) × (List (Int)) × Int) a' w' => ∃ l9 : List (Int × Int × Int × Int × Int), ∃ A11 : Option Addr, ∃ cap11 : Nat, ∃ fp10 : List Nat, ∃ l10 : List (Int), ∃ A12 : Option Addr, ∃ cap12 : Nat, ∃ fp11 : List Nat, ∃ x3 : Int, (l9, l10, x3) = s2 ∧ Fr 89 [(1, .slice A1 (l1).length cap1), (6, .slice A11 (l9).length cap11), (7, .slice A12 (l10).length cap12), (9, .int .i64 (x3))] a' ∧ SlR 1 encI w' fp1 A1 l1 ∧ Ow 5 encIIIII 58 w' fp10 A11 cap11 l9 ∧ Ow 1 encI 2 w' fp11 A12 cap12 l10 ∧ (∀ x ∈ fp10, w0.heap.size ≤ x) ∧ (∀ x ∈ fp11, w0.heap.size ≤ x) ∧ Dj fp11 fp10 ∧ Chg [] w0 w' ∧ w0.heap.size ≤ w'.heap.size) hr3 (fun hst => ⟨l3, A3, cap3, fp2, l4, A4, cap4, fp3, 0, rfl, Fr.of hst (by kernel_rfl), F12, F13, F14, G9, G10, D13, hB, hZ⟩) ?_
   rintro _ c2 a' w10 ⟨l9, A11, cap11, fp10, l10, A12, cap12, fp11, x3, rfl, hF3, F15, F16, F17, G11, G12, D14, hB, hZ⟩ hx3
   refine Fr.goOn hF3 (by kernel_rfl) ?_
   have hm := hx3
   unfold m_spec_l06Tree_s2 at hm
   refine cW_seq ?_
   refine cW_seq ?_
   refine cW_region ?_
   refine wS_pure 4 [(36, .bool (decide (x3 < (((l1).length : Int))))), (35, .int .i64 (((l1).length : Int))), (34, .slice A1 (l1).length cap1), (33, .int .i64 (x3))] (by kernel_rfl) ?_
   refine wS_end (by rfl) ?_
   refine eX_then ?_
   refine cW_cond (t := decide (x3 < (((l1).length : Int)))) (by kernel_rfl) (fun hb2 => ?_) (fun hb2 => ?_)
   ·have hm := condT hb2 hm
    refine cW_skip ?_
    refine eX_then ?_
    refine cW_seq ?_
    refine cW_block ?_
    refine cW_seq ?_
    obtain ⟨s3, hs1, hm⟩ := bindE hm
    refine cW_cut (fun a' w' => ∃ b5 : Nat, ∃ x4 : Int, ∃ x5 : Int, ∃ x6 : Int, ∃ x7 : Int, ∃ x8 : Int, ∃ x9 : Int, ∃ x10 : Int, (x4, x5, x6, x7, x8, x9, x10) = s3 ∧ Fr 89 [(1, .slice A1 (l1).length cap1), (6, .slice A11 (l9).length cap11), (7, .slice A12 (l10).length cap12), (9, .int .i64 (x3)), (10, .pointer (some ⟨b5, 0, none⟩)), (11, .int .i64 (x9)), (12, .int .i64 (x10))] a' ∧ SlR 1 encI w' fp1 A1 l1 ∧ Ow 5 encIIIII 58 w' fp10 A11 cap11 l9 ∧ Ow 1 encI 2 w' fp11 A12 cap12 l10 ∧ Cl w' b5 58 [.int .i64 (x4), .int .i64 (x5), .int .i64 (x6), .int .i64 (x7), .int .i64 (x8)] ∧ w0.heap.size ≤ b5 ∧ Dj fp10 [b5] ∧ Dj fp11 [b5] ∧ Chg [] w0 w' ∧ w0.heap.size ≤ w'.heap.size) ?_ ?_
    ·have hm := hs1
     refine cW_drawnTail [] 26 (by kernel_rfl) (by kernel_rfl) (fun w11 hc8 => ?_)
     replace F15 := F15.chg hc8 Dj.nil
     replace F16 := F16.chg hc8 Dj.nil
     replace F17 := F17.chg hc8 Dj.nil
     replace hB := hB.inS hc8 inNil
     replace hZ := Nat.le_trans hZ hc8.size
     have hS := Chg.refl [] w11
     have Z1 := F15
     have Z2 := F16
     have Z3 := F17
     refine wH_take [0, 1, 2] [2, 1, 0] [(42, .int .i64 (x3)), (41, .slice A1 (l1).length cap1), (40, .slice A11 (l9).length cap11)] (by kernel_rfl) (qT (qT (qT (qB (qT (qL (qB (qT (qT qZ))))))))) (by kernel_rfl) ?_
     obtain ⟨x11, hx4, hm⟩ := bindE hm
     refine wH_idx (i := 3) (d := 43) (T := 26) (A := A1) (n := (l1).length) (cap := cap1) (kd := .i64) (m := x3) (by kernel_rfl) (qT (qT (qT (qB (qT (qL (qB (qT (qT qZ))))))))) (by kernel_rfl) (by kernel_rfl) sl26 (F15.is hx4) ?_
     obtain ⟨A13, cap13, hc9, F18, K1⟩ := SlR.row Z1 hx4
     refine wH_load1 (i := 4) (d := 44) (T := 32) (ad := (elA A1 1 (x3) 0)) (v := .slice A13 (x11).length cap13) (by kernel_rfl) (qT (qT (qT (qB (qT (qL (qB (qT (qT qZ))))))))) (by kernel_rfl) (by kernel_rfl) vt32 (fun W hW => hW.keep hc9) ?_
     obtain ⟨x12, hx5, hm⟩ := bindE hm
     refine wH_idx (i := 5) (d := 45) (T := 32) (A := A13) (n := (x11).length) (cap := cap13) (kd := .i64) (m := 0) (by kernel_rfl) (qT (qT (qT (qB (qT (qL (qB (qT (qT qZ))))))))) (by kernel_rfl) (by kernel_rfl) sl32 (F18.is hx5) ?_
     refine wH_load1 (i := 6) (d := 46) (T := 2) (ad := (elA A13 1 (0) 0)) (v := .int .i64 (x12)) (by kernel_rfl) (qT (qT (qT (qB (qT (qL (qB (qT (qT qZ))))))))) (by kernel_rfl) (by kernel_rfl) vt2 (fun W hW => Sl.cell (F18.chg hW Dj.nil) hx5 0 (by rfl)) ?_
     obtain ⟨x13, hx6, hm⟩ := bindE hm
     refine wH_idx (i := 7) (d := 47) (T := 51) (A := A11) (n := (l9).length) (cap := cap11) (kd := .i64) (m := x12) (by kernel_rfl) (qT (qT (qT (qB (qT (qL (qB (qT (qT qZ))))))))) (by kernel_rfl) (by kernel_rfl) sl51 ((F16.sl encIIIII_ok).is hx6) ?_
     refine wH_loadA (i := 8) (d := 48) (T := 58) (ad := (elA A11 5 (x12) 0)) (vs := [.int .i64 (x13.1), .int .i64 (x13.2.1), .int .i64 (x13.2.2.1), .int .i64 (x13.2.2.2.1), .int .i64 (x13.2.2.2.2)]) (by kernel_rfl) (qT (qT (qT (qB (qT (qL (qB (qT (qT qZ))))))))) (by kernel_rfl) (by kernel_rfl) vt58 (fun W hW i u hu => Sl.cells_at ((Z2.chg hW Dj.nil).sl encIIIII_ok) hx6 0 hu (by rfl)) ?_
     refine wH_take [9, 10, 11] [11, 10, 9, 8, 7, 6, 5, 4, 3, 2, 1, 0] [(51, .int .i64 (x3)), (50, .slice A1 (l1).length cap1), (49, .slice A11 (l9).length cap11)] (by kernel_rfl) (qT (qT (qT (qB (qT (qL (qB (qT (qT qZ))))))))) (by kernel_rfl) ?_
     obtain ⟨x14, hx7, hm⟩ := bindE hm
     refine wH_idx (i := 12) (d := 52) (T := 26) (A := A1) (n := (l1).length) (cap := cap1) (kd := .i64) (m := x3) (by kernel_rfl) (qT (qT (qT (qB (qT (qL (qB (qT (qT qZ))))))))) (by kernel_rfl) (by kernel_rfl) sl26 (F15.is hx7) ?_
     obtain ⟨A14, cap14, hc10, F19, K2⟩ := SlR.row Z1 hx7
     refine wH_load1 (i := 13) (d := 53) (T := 32) (ad := (elA A1 1 (x3) 0)) (v := .slice A14 (x14).length cap14) (by kernel_rfl) (qT (qT (qT (qB (qT (qL (qB (qT (qT qZ))))))))) (by kernel_rfl) (by kernel_rfl) vt32 (fun W hW => hW.keep hc10) ?_
     obtain ⟨x15, hx8, hm⟩ := bindE hm
     refine wH_idx (i := 14) (d := 54) (T := 32) (A := A14) (n := (x14).length) (cap := cap14) (kd := .i64) (m := 1) (by kernel_rfl) (qT (qT (qT (qB (qT (qL (qB (qT (qT qZ))))))))) (by kernel_rfl) (by kernel_rfl) sl32 (F19.is hx8) ?_
     refine wH_load1 (i := 15) (d := 55) (T := 2) (ad := (elA A14 1 (1) 0)) (v := .int .i64 (x15)) (by kernel_rfl) (qT (qT (qT (qB (qT (qL (qB (qT (qT qZ))))))))) (by kernel_rfl) (by kernel_rfl) vt2 (fun W hW => Sl.cell (F19.chg hW Dj.nil) hx8 0 (by rfl)) ?_
     obtain ⟨x16, hx9, hm⟩ := bindE hm
     refine wH_idx (i := 16) (d := 56) (T := 51) (A := A11) (n := (l9).length) (cap := cap11) (kd := .i64) (m := x15) (by kernel_rfl) (qT (qT (qT (qB (qT (qL (qB (qT (qT qZ))))))))) (by kernel_rfl) (by kernel_rfl) sl51 ((F16.sl encIIIII_ok).is hx9) ?_
     refine wH_loadA (i := 17) (d := 57) (T := 58) (ad := (elA A11 5 (x15) 0)) (vs := [.int .i64 (x16.1), .int .i64 (x16.2.1), .int .i64 (x16.2.2.1), .int .i64 (x16.2.2.2.1), .int .i64 (x16.2.2.2.2)]) (by kernel_rfl) (qT (qT (qT (qB (qT (qL (qB (qT (qT qZ))))))))) (by kernel_rfl) (by kernel_rfl) vt58 (fun W hW i u hu => Sl.cells_at ((Z2.chg hW Dj.nil).sl encIIIII_ok) hx9 0 hu (by rfl)) ?_
     refine wH_all [18, 23] (by rfl) (by kernel_rfl) (by simp) ⟨⟨by kernel_rfl, ?_⟩, ⟨by kernel_rfl, ?_⟩, trivial⟩
     ·skip
      obtain ⟨y2, hy2, hm⟩ := bindE hm
      refine wS_calls (d := 58) (f := 61) (vs := [.agg #[.int .i64 (x13.1), .int .i64 (x13.2.1), .int .i64 (x13.2.2.1), .int .i64 (x13.2.2.2.1), .int .i64 (x13.2.2.2.2)], .agg #[.int .i64 (x16.1), .int .i64 (x16.2.1), .int .i64 (x16.2.2.1), .int .i64 (x16.2.2.2.1), .int .i64 (x16.2.2.2.2)]]) (by kernel_rfl) ent61 (c_spec_l06Pair hy2) ?_
      rintro _ w12 ⟨rfl, hc11⟩
      replace F15 := F15.chg hc11 Dj.nil
      replace F16 := F16.chg hc11 Dj.nil
      replace F17 := F17.chg hc11 Dj.nil
      replace F18 := F18.chg hc11 Dj.nil
      replace F19 := F19.chg hc11 Dj.nil
      replace hB := hB.inS hc11 inNil
      have hSz := hS
      replace hS := hS.inS hc11 inNil
      replace hZ := Nat.le_trans hZ hc11.size
      refine ⟨.tuple #[.agg #[.int .i64 (y2.1.1), .int .i64 (y2.1.2.1), .int .i64 (y2.1.2.2.1), .int .i64 (y2.1.2.2.2.1), .int .i64 (y2.1.2.2.2.2)], .int .i64 (y2.2.1), .int .i64 (y2.2.2)], rfl, ?_⟩
      refine wS_end (by kernel_rfl) ?_
      refine eX_KH hS ?_
      refine wH_take [19, 20, 21, 22] [22, 21, 20, 19, 18, 17, 16, 15, 14, 13, 12, 11, 10, 9, 8, 7, 6, 5, 4, 3, 2, 1, 0] [(61, .int .i64 (y2.2.2)), (60, .int .i64 (y2.2.1)), (59, .agg #[.int .i64 (y2.1.1), .int .i64 (y2.1.2.1), .int .i64 (y2.1.2.2.1), .int .i64 (y2.1.2.2.2.1), .int .i64 (y2.1.2.2.2.2)]), (39, .tuple #[.agg #[.int .i64 (y2.1.1), .int .i64 (y2.1.2.1), .int .i64 (y2.1.2.2.1), .int .i64 (y2.1.2.2.2.1), .int .i64 (y2.1.2.2.2.2)], .int .i64 (y2.2.1), .int .i64 (y2.2.2)])] (by kernel_rfl) (qT (qT (qT (qB (qT (qL (qB (qT (qT qZ))))))))) (by kernel_rfl) ?_
      refine wH_all [23] (by rfl) (by kernel_rfl) (by simp) ⟨⟨by kernel_rfl, ?_⟩, trivial⟩
      refine wS_alloc (d := 10) (T := 58) (z := .agg #[.int .i64 (0), .int .i64 (0), .int .i64 (0), .int .i64 (0), .int .i64 (0)]) (by kernel_rfl) (by kernel_rfl) ?_
      intro b6 w13 G13 F20 hc12
      replace F20 : Cl w13 b6 58 [.int .i64 (0), .int .i64 (0), .int .i64 (0), .int .i64 (0), .int .i64 (0)] := F20
      have D15 : Dj fp10 [b6] := Dj.of F16.low (low1 G13)
      have D16 : Dj fp11 [b6] := Dj.of F17.low (low1 G13)
      replace F15 := F15.chg hc12 Dj.nil
      replace F16 := F16.chg hc12 Dj.nil
      replace F17 := F17.chg hc12 Dj.nil
      replace F18 := F18.chg hc12 Dj.nil
      replace F19 := F19.chg hc12 Dj.nil
      replace hB := hB.inS hc12 inNil
      have hSz := hS
      replace hS := hS.inS hc12 inNil
      have Gz1 := low1 (Nat.le_trans hSz.size G13)
      replace G13 := Nat.le_trans hZ G13
      replace hZ := Nat.le_trans hZ hc12.size
      refine wS_end (by kernel_rfl) ?_
      refine eX_KH hS ?_
      refine wH_all [24] (by rfl) (by kernel_rfl) (by simp) ⟨⟨by kernel_rfl, ?_⟩, trivial⟩
      refine wS_store (T := 58) (g := b6) (o := 0) (ad := ⟨b6, 0, none⟩) (v := .agg #[.int .i64 (y2.1.1), .int .i64 (y2.1.2.1), .int .i64 (y2.1.2.2.1), .int .i64 (y2.1.2.2.2.1), .int .i64 (y2.1.2.2.2.2)]) (vs := [.int .i64 (y2.1.1), .int .i64 (y2.1.2.1), .int .i64 (y2.1.2.2.1), .int .i64 (y2.1.2.2.2.1), .int .i64 (y2.1.2.2.2.2)]) (by kernel_rfl) (by rfl) sz58 (by rfl) (by rfl) F20 (by simp only [List.length_cons, List.length_nil]; omega) ?_
      intro w14 F21 hc13
      replace F15 := F15.chg hc13 (Dj.of L1 (low1 G13))
      replace F16 := F16.chg hc13 D15
      replace F17 := F17.chg hc13 D16
      replace F18 := F18.chg hc13 (Dj.of L1 (low1 G13))
      replace F19 := F19.chg hc13 (Dj.of L1 (low1 G13))
      replace hB := hB.inS hc13 (inLow (low1 G13))
      have hSz := hS
      replace hS := hS.inS hc13 (inLow Gz1)
      replace hZ := Nat.le_trans hZ hc13.size
      replace F21 : Cl w14 b6 58 [.int .i64 (y2.1.1), .int .i64 (y2.1.2.1), .int .i64 (y2.1.2.2.1), .int .i64 (y2.1.2.2.2.1), .int .i64 (y2.1.2.2.2.2)] := F21
      clear F20
      refine wS_end (by kernel_rfl) ?_
      refine eX_KH hS ?_
      refine wH_take [25] [25, 24, 23, 22, 21, 20, 19, 18, 17, 16, 15, 14, 13, 12, 11, 10, 9, 8, 7, 6, 5, 4, 3, 2, 1, 0] [(11, .int .i64 (y2.2.1))] (by kernel_rfl) (qT (qT (qT (qB (qT (qL (qB (qT (qT qZ))))))))) (by kernel_rfl) ?_
      refine wH_done (by kernel_rfl) ?_
      refine eX_tail ?_
      refine wS_pure 1 [(12, .int .i64 (y2.2.2))] (by kernel_rfl) ?_
      refine wS_end (by rfl) ?_
      have hq : (some ((y2.1.1, y2.1.2.1, y2.1.2.2.1, y2.1.2.2.2.1, y2.1.2.2.2.2, y2.2.1, y2.2.2)) : Option (Int × Int × Int × Int × Int × Int × Int)) = some _ := hm
      replace hq := someE hq
      subst hq
      exact eX_J (fun hst => ⟨b6, y2.1.1, y2.1.2.1, y2.1.2.2.1, y2.1.2.2.2.1, y2.1.2.2.2.2, y2.2.1, y2.2.2, rfl, Fr.of hst (by kernel_rfl), F15, F16, F17, F21, G13, D15, D16, hB, hZ⟩)
     ·skip
      refine wS_alloc (d := 10) (T := 58) (z := .agg #[.int .i64 (0), .int .i64 (0), .int .i64 (0), .int .i64 (0), .int .i64 (0)]) (by kernel_rfl) (by kernel_rfl) ?_
      intro b7 w15 G14 F22 hc14
      replace F22 : Cl w15 b7 58 [.int .i64 (0), .int .i64 (0), .int .i64 (0), .int .i64 (0), .int .i64 (0)] := F22
      have D17 : Dj fp10 [b7] := Dj.of F16.low (low1 G14)
      have D18 : Dj fp11 [b7] := Dj.of F17.low (low1 G14)
      replace F15 := F15.chg hc14 Dj.nil
      replace F16 := F16.chg hc14 Dj.nil
      replace F17 := F17.chg hc14 Dj.nil
      replace F18 := F18.chg hc14 Dj.nil
      replace F19 := F19.chg hc14 Dj.nil
      replace hB := hB.inS hc14 inNil
      have hSz := hS
      replace hS := hS.inS hc14 inNil
      have Gz2 := low1 (Nat.le_trans hSz.size G14)
      replace G14 := Nat.le_trans hZ G14
      replace hZ := Nat.le_trans hZ hc14.size
      refine wS_end (by kernel_rfl) ?_
      refine eX_KH hS ?_
      refine wH_all [18] (by rfl) (by kernel_rfl) (by simp) ⟨⟨by kernel_rfl, ?_⟩, trivial⟩
      obtain ⟨y3, hy3, hm⟩ := bindE hm
      refine wS_calls (d := 58) (f := 61) (vs := [.agg #[.int .i64 (x13.1), .int .i64 (x13.2.1), .int .i64 (x13.2.2.1), .int .i64 (x13.2.2.2.1), .int .i64 (x13.2.2.2.2)], .agg #[.int .i64 (x16.1), .int .i64 (x16.2.1), .int .i64 (x16.2.2.1), .int .i64 (x16.2.2.2.1), .int .i64 (x16.2.2.2.2)]]) (by kernel_rfl) ent61 (c_spec_l06Pair hy3) ?_
      rintro _ w16 ⟨rfl, hc15⟩
      replace F15 := F15.chg hc15 Dj.nil
      replace F16 := F16.chg hc15 Dj.nil
      replace F17 := F17.chg hc15 Dj.nil
      replace F18 := F18.chg hc15 Dj.nil
      replace F19 := F19.chg hc15 Dj.nil
      replace F22 := F22.chg hc15 notNil
      replace hB := hB.inS hc15 inNil
      have hSz := hS
      replace hS := hS.inS hc15 inNil
      replace hZ := Nat.le_trans hZ hc15.size
      refine ⟨.tuple #[.agg #[.int .i64 (y3.1.1), .int .i64 (y3.1.2.1), .int .i64 (y3.1.2.2.1), .int .i64 (y3.1.2.2.2.1), .int .i64 (y3.1.2.2.2.2)], .int .i64 (y3.2.1), .int .i64 (y3.2.2)], rfl, ?_⟩
      refine wS_end (by kernel_rfl) ?_
      refine eX_KH hS ?_
      refine wH_take [19, 20, 21, 22] [22, 21, 20, 19, 18, 23, 17, 16, 15, 14, 13, 12, 11, 10, 9, 8, 7, 6, 5, 4, 3, 2, 1, 0] [(61, .int .i64 (y3.2.2)), (60, .int .i64 (y3.2.1)), (59, .agg #[.int .i64 (y3.1.1), .int .i64 (y3.1.2.1), .int .i64 (y3.1.2.2.1), .int .i64 (y3.1.2.2.2.1), .int .i64 (y3.1.2.2.2.2)]), (39, .tuple #[.agg #[.int .i64 (y3.1.1), .int .i64 (y3.1.2.1), .int .i64 (y3.1.2.2.1), .int .i64 (y3.1.2.2.2.1), .int .i64 (y3.1.2.2.2.2)], .int .i64 (y3.2.1), .int .i64 (y3.2.2)])] (by kernel_rfl) (qT (qT (qT (qB (qT (qL (qB (qT (qT qZ))))))))) (by kernel_rfl) ?_
      refine wH_all [24] (by rfl) (by kernel_rfl) (by simp) ⟨⟨by kernel_rfl, ?_⟩, trivial⟩
      refine wS_store (T := 58) (g := b7) (o := 0) (ad := ⟨b7, 0, none⟩) (v := .agg #[.int .i64 (y3.1.1), .int .i64 (y3.1.2.1), .int .i64 (y3.1.2.2.1), .int .i64 (y3.1.2.2.2.1), .int .i64 (y3.1.2.2.2.2)]) (vs := [.int .i64 (y3.1.1), .int .i64 (y3.1.2.1), .int .i64 (y3.1.2.2.1), .int .i64 (y3.1.2.2.2.1), .int .i64 (y3.1.2.2.2.2)]) (by kernel_rfl) (by rfl) sz58 (by rfl) (by rfl) F22 (by simp only [List.length_cons, List.length_nil]; omega) ?_
      intro w17 F23 hc16
      replace F15 := F15.chg hc16 (Dj.of L1 (low1 G14))
      replace F16 := F16.chg hc16 D17
      replace F17 := F17.chg hc16 D18
      replace F18 := F18.chg hc16 (Dj.of L1 (low1 G14))
      replace F19 := F19.chg hc16 (Dj.of L1 (low1 G14))
      replace hB := hB.inS hc16 (inLow (low1 G14))
      have hSz := hS
      replace hS := hS.inS hc16 (inLow Gz2)
      replace hZ := Nat.le_trans hZ hc16.size
      replace F23 : Cl w17 b7 58 [.int .i64 (y3.1.1), .int .i64 (y3.1.2.1), .int .i64 (y3.1.2.2.1), .int .i64 (y3.1.2.2.2.1), .int .i64 (y3.1.2.2.2.2)] := F23
      clear F22
      refine wS_end (by kernel_rfl) ?_
      refine eX_KH hS ?_
      refine wH_take [25] [25, 24, 22, 21, 20, 19, 18, 23, 17, 16, 15, 14, 13, 12, 11, 10, 9, 8, 7, 6, 5, 4, 3, 2, 1, 0] [(11, .int .i64 (y3.2.1))] (by kernel_rfl) (qT (qT (qT (qB (qT (qL (qB (qT (qT qZ))))))))) (by kernel_rfl) ?_
      refine wH_done (by kernel_rfl) ?_
      refine eX_tail ?_
      refine wS_pure 1 [(12, .int .i64 (y3.2.2))] (by kernel_rfl) ?_
      refine wS_end (by rfl) ?_
      have hq : (some ((y3.1.1, y3.1.2.1, y3.1.2.2.1, y3.1.2.2.2.1, y3.1.2.2.2.2, y3.2.1, y3.2.2)) : Option (Int × Int × Int × Int × Int × Int × Int)) = some _ := hm
      replace hq := someE hq
      subst hq
      exact eX_J (fun hst => ⟨b7, y3.1.1, y3.1.2.1, y3.1.2.2.1, y3.1.2.2.2.1, y3.1.2.2.2.2, y3.2.1, y3.2.2, rfl, Fr.of hst (by kernel_rfl), F15, F16, F17, F23, G14, D17, D18, hB, hZ⟩)
    ·rintro a' w18 ⟨b5, x4, x5, x6, x7, x8, x9, x10, hJ, hF4, F24, F25, F26, F27, G15, D19, D20, hB, hZ⟩
     subst hJ
     refine Fr.goX hF4 (by kernel_rfl) ?_
     refine eX_then ?_
     refine cW_seq ?_
     refine cW_region ?_
     refine wS_pure 3 [(64, .int .i64 (x3)), (63, .slice A1 (l1).length cap1), (62, .slice A12 (l10).length cap12)] (by kernel_rfl) ?_
     obtain ⟨x17, hx10, hm⟩ := bindE hm
     refine wS_idx (d := 65) (T := 26) (A := A1) (n := (l1).length) (cap := cap1) (kd := .i64) (m := x3) (by kernel_rfl) sl26 (F24.is hx10) ?_
     obtain ⟨A15, cap15, hc17, F28, K3⟩ := SlR.row F24 hx10
     refine wS_load1 (d := 66) (T := 32) (ad := (elA A1 1 (x3) 0)) (v := .slice A15 (x17).length cap15) (by kernel_rfl) vt32 hc17 ?_
     obtain ⟨x18, hx11, hm⟩ := bindE hm
     refine wS_idx (d := 67) (T := 32) (A := A15) (n := (x17).length) (cap := cap15) (kd := .i64) (m := 0) (by kernel_rfl) sl32 (F28.is hx11) ?_
     refine wS_load1 (d := 68) (T := 2) (ad := (elA A15 1 (0) 0)) (v := .int .i64 (x18)) (by kernel_rfl) vt2 (Sl.cell F28 hx11 0 (by rfl)) ?_
     refine wS_pure 1 [(69, .int .i64 (x9))] (by kernel_rfl) ?_
     obtain ⟨x19, hx12, hm⟩ := bindE hm
     refine wS_idx (d := 70) (T := 32) (A := A12) (n := (l10).length) (cap := cap12) (kd := .i64) (m := x18) (by kernel_rfl) sl32 ((F26.sl encI_ok).is hx12) ?_
     refine wS_storeEl (x := x19) x9 (T := 2) (U := 2) (cap := cap12) (j := 0) (A := A12) (v := .int .i64 (x9)) (vs := [.int .i64 (x9)]) (m := x18) (by kernel_rfl) (by rfl) sz2 (by rfl) encI_ok F26 hx12 (by simp only [List.length_cons, List.length_nil]; omega) (by rfl) ?_
     intro w19 F29 hc18
     replace F24 := F24.chg hc18 (Dj.of L1 G12)
     replace F25 := F25.chg hc18 (D14).symm
     replace F27 := F27.chg hc18 (dj1 (D20).symm)
     replace F28 := F28.chg hc18 (Dj.of L1 G12)
     replace hB := hB.inS hc18 (inLow G12)
     replace hZ := Nat.le_trans hZ hc18.size
     clear F26
     rewrite [show (l10).length = (l10.set (Int.toNat x18) x9).length from (List.length_set ..).symm]
     refine wS_end (by rfl) ?_
     refine eX_then ?_
     refine cW_seq ?_
     refine cW_region ?_
     refine wS_pure 3 [(73, .int .i64 (x3)), (72, .slice A1 (l1).length cap1), (71, .slice A12 (l10.set (Int.toNat x18) x9).length cap12)] (by kernel_rfl) ?_
     obtain ⟨x20, hx13, hm⟩ := bindE hm
     refine wS_idx (d := 74) (T := 26) (A := A1) (n := (l1).length) (cap := cap1) (kd := .i64) (m := x3) (by kernel_rfl) sl26 (F24.is hx13) ?_
     obtain ⟨A16, cap16, hc19, F30, K4⟩ := SlR.row F24 hx13
     refine wS_load1 (d := 75) (T := 32) (ad := (elA A1 1 (x3) 0)) (v := .slice A16 (x20).length cap16) (by kernel_rfl) vt32 hc19 ?_
     obtain ⟨x21, hx14, hm⟩ := bindE hm
     refine wS_idx (d := 76) (T := 32) (A := A16) (n := (x20).length) (cap := cap16) (kd := .i64) (m := 1) (by kernel_rfl) sl32 (F30.is hx14) ?_
     refine wS_load1 (d := 77) (T := 2) (ad := (elA A16 1 (1) 0)) (v := .int .i64 (x21)) (by kernel_rfl) vt2 (Sl.cell F30 hx14 0 (by rfl)) ?_
     refine wS_pure 1 [(78, .int .i64 (x10))] (by kernel_rfl) ?_
     obtain ⟨x22, hx15, hm⟩ := bindE hm
     refine wS_idx (d := 79) (T := 32) (A := A12) (n := (l10.set (Int.toNat x18) x9).length) (cap := cap12) (kd := .i64) (m := x21) (by kernel_rfl) sl32 ((F29.sl encI_ok).is hx15) ?_
     refine wS_storeEl (x := x22) x10 (T := 2) (U := 2) (cap := cap12) (j := 0) (A := A12) (v := .int .i64 (x10)) (vs := [.int .i64 (x10)]) (m := x21) (by kernel_rfl) (by rfl) sz2 (by rfl) encI_ok F29 hx15 (by simp only [List.length_cons, List.length_nil]; omega) (by rfl) ?_
     intro w20 F31 hc20
     replace F24 := F24.chg hc20 (Dj.of L1 G12)
     replace F25 := F25.chg hc20 (D14).symm
     replace F27 := F27.chg hc20 (dj1 (D20).symm)
     replace F28 := F28.chg hc20 (Dj.of L1 G12)
     replace F30 := F30.chg hc20 (Dj.of L1 G12)
     replace hB := hB.inS hc20 (inLow G12)
     replace hZ := Nat.le_trans hZ hc20.size
     clear F29
     rewrite [show (l10.set (Int.toNat x18) x9).length = ((l10.set (Int.toNat x18) x9).set (Int.toNat x21) x10).length from (List.length_set ..).symm]
     refine wS_end (by rfl) ?_
     refine eX_then ?_
     refine cW_prune [(1, .slice A1 (l1).length cap1), (6, .slice A11 (l9).length cap11), (7, .slice A12 ((l10.set (Int.toNat x18) x9).set (Int.toNat x21) x10).length cap12), (9, .int .i64 (x3)), (10, .pointer (some ⟨b5, 0, none⟩))] (by kernel_rfl) (by kernel_rfl) (fun a1 => ?_)
     refine cW_seq ?_
     refine cW_region ?_
     refine wS_pure 1 [(80, .slice A11 (l9).length cap11)] (by kernel_rfl) ?_
     refine wS_loadA (d := 81) (T := 58) (ad := ⟨b5, 0, none⟩) (vs := [.int .i64 (x4), .int .i64 (x5), .int .i64 (x6), .int .i64 (x7), .int .i64 (x8)]) (by kernel_rfl) vt58 (fun i u hu => box_cells F27 0 hu (by rfl)) ?_
     refine wS_bs (enc := encIIIII) ([(x4, x5, x6, x7, x8)] : List (Int × Int × Int × Int × Int)) [.int .i64 (x4), .int .i64 (x5), .int .i64 (x6), .int .i64 (x7), .int .i64 (x8)] (d := 82) (t := 51) (T := 58) (n := 1) (ps := [(0, .agg #[.int .i64 (x4), .int .i64 (x5), .int .i64 (x6), .int .i64 (x7), .int .i64 (x8)])]) (by kernel_rfl) el51 encIIIII_ok (by rfl) (by omega) (by omega) (by kernel_rfl) (by rfl) ?_
     intro b8 w21 G16 F32 hc21
     have D21 : Dj fp10 [b8] := Dj.of F25.low (low1 G16)
     have D22 : Dj fp11 [b8] := Dj.of F31.low (low1 G16)
     have D23 : Dj [b5] [b8] := Dj.of (lt1 F27.lt) (low1 G16)
     replace F24 := F24.chg hc21 Dj.nil
     replace F25 := F25.chg hc21 Dj.nil
     replace F31 := F31.chg hc21 Dj.nil
     replace F27 := F27.chg hc21 notNil
     replace F28 := F28.chg hc21 Dj.nil
     replace F30 := F30.chg hc21 Dj.nil
     replace hB := hB.inS hc21 inNil
     replace G16 := Nat.le_trans hZ G16
     replace G16 := low1 G16
     replace hZ := Nat.le_trans hZ hc21.size
     obtain ⟨_, hk3, hm⟩ := bindE hm
     replace hk3 := apE hk3
     refine wS_append (enc := encIIIII) (l := (l9 : List (Int × Int × Int × Int × Int))) (l2 := (([(x4, x5, x6, x7, x8)] : List (Int × Int × Int × Int × Int)) : List (Int × Int × Int × Int × Int))) (d := 83) (t := 51) (T := 58) (A := A11) (A2 := (some ⟨b8, 0, none⟩)) (cap := cap11) (cap2 := 1) (by kernel_rfl) el51 encIIIII_ok F25 (F32.sl encIIIII_ok) (by rfl) hk3 ?_
     intro w22 fp12 A17 cap17 F33 hc22 hp3
     have G17 := low_ap G11 hZ hp3
     have D24 : Dj fp11 fp12 := Dj.ap D14 F31.low hp3
     have D25 : Dj [b5] fp12 := Dj.ap (D19).symm (lt1 F27.lt) hp3
     have D26 : Dj [b8] fp12 := Dj.ap (D21).symm F32.low hp3
     replace F24 := F24.chg hc22 (Dj.of L1 G11)
     replace F31 := F31.chg hc22 D14
     replace F27 := F27.chg hc22 (dj1 (D19).symm)
     replace F28 := F28.chg hc22 (Dj.of L1 G11)
     replace F30 := F30.chg hc22 (Dj.of L1 G11)
     replace F32 := F32.chg hc22 (D21).symm
     replace hB := hB.inS hc22 (inLow G11)
     replace hZ := Nat.le_trans hZ hc22.size
     refine wS_pure 1 [(6, .slice A17 (l9 ++ (([(x4, x5, x6, x7, x8)] : List (Int × Int × Int × Int × Int)))).length cap17)] (by kernel_rfl) ?_
     refine wS_end (by rfl) ?_
     refine eX_then ?_
     refine cW_region ?_
     refine wS_pure 1 [(84, .slice A12 ((l10.set (Int.toNat x18) x9).set (Int.toNat x21) x10).length cap12)] (by kernel_rfl) ?_
     refine wS_bs (enc := encI) ([0] : List (Int)) [.int .i64 (0)] (d := 85) (t := 32) (T := 2) (n := 1) (ps := [(0, .int .i64 (0))]) (by kernel_rfl) el32 encI_ok (by rfl) (by omega) (by omega) (by kernel_rfl) (by rfl) ?_
     intro b9 w23 G18 F34 hc23
     have D27 : Dj fp11 [b9] := Dj.of F31.low (low1 G18)
     have D28 : Dj [b5] [b9] := Dj.of (lt1 F27.lt) (low1 G18)
     have D29 : Dj [b8] [b9] := Dj.of F32.low (low1 G18)
     have D30 : Dj fp12 [b9] := Dj.of F33.low (low1 G18)
     replace F24 := F24.chg hc23 Dj.nil
     replace F31 := F31.chg hc23 Dj.nil
     replace F27 := F27.chg hc23 notNil
     replace F28 := F28.chg hc23 Dj.nil
     replace F30 := F30.chg hc23 Dj.nil
     replace F32 := F32.chg hc23 Dj.nil
     replace F33 := F33.chg hc23 Dj.nil
     replace hB := hB.inS hc23 inNil
     replace G18 := Nat.le_trans hZ G18
     replace G18 := low1 G18
     replace hZ := Nat.le_trans hZ hc23.size
     obtain ⟨_, hk4, hm⟩ := bindE hm
     replace hk4 := apE hk4
     refine wS_append (enc := encI) (l := ((l10.set (Int.toNat x18) x9).set (Int.toNat x21) x10 : List (Int))) (l2 := (([0] : List (Int)) : List (Int))) (d := 86) (t := 32) (T := 2) (A := A12) (A2 := (some ⟨b9, 0, none⟩)) (cap := cap12) (cap2 := 1) (by kernel_rfl) el32 encI_ok F31 (F34.sl encI_ok) (by rfl) hk4 ?_
     intro w24 fp13 A18 cap18 F35 hc24 hp4
     have G19 := low_ap G12 hZ hp4
     have D31 : Dj [b5] fp13 := Dj.ap (D20).symm (lt1 F27.lt) hp4
     have D32 : Dj [b8] fp13 := Dj.ap (D22).symm F32.low hp4
     have D33 : Dj fp12 fp13 := Dj.ap (D24).symm F33.low hp4
     have D34 : Dj [b9] fp13 := Dj.ap (D27).symm F34.low hp4
     replace F24 := F24.chg hc24 (Dj.of L1 G12)
     replace F27 := F27.chg hc24 (dj1 (D20).symm)
     replace F28 := F28.chg hc24 (Dj.of L1 G12)
     replace F30 := F30.chg hc24 (Dj.of L1 G12)
     replace F32 := F32.chg hc24 (D22).symm
     replace F33 := F33.chg hc24 (D24).symm
     replace F34 := F34.chg hc24 (D27).symm
     replace hB := hB.inS hc24 (inLow G12)
     replace hZ := Nat.le_trans hZ hc24.size
     refine wS_pure 1 [(7, .slice A18 (((l10.set (Int.toNat x18) x9).set (Int.toNat x21) x10) ++ (([0] : List (Int)))).length cap18)] (by kernel_rfl) ?_
     refine wS_end (by rfl) ?_
     refine eX_block ?_
     refine eX_then ?_
     refine cW_region ?_
     refine wS_pure 3 [(9, .int .i64 (wr (x3 + 1))), (38, .int .i64 (wr (x3 + 1))), (37, .int .i64 (x3))] (by kernel_rfl) ?_
     refine wS_end (by rfl) ?_
     have hq : (some (Ctl.next ((l9 ++ (([(x4, x5, x6, x7, x8)] : List (Int × Int × Int × Int × Int))), ((l10.set (Int.toNat x18) x9).set (Int.toNat x21) x10) ++ (([0] : List (Int))), wr (x3 + 1)))) : Option (Ctl ((List (Int × Int × Int × Int × Int)) × (List (Int)) × Int) ((List (Int × Int × Int × Int × Int)) × (List (Int))))) = some _ := hm
     replace hq := someE hq
     subst hq
     exact eX_next hx3 (fun hst => ⟨l9 ++ (([(x4, x5, x6, x7, x8)] : List (Int × Int × Int × Int × Int))), A17, cap17, fp12, ((l10.set (Int.toNat x18) x9).set (Int.toNat x21) x10) ++ (([0] : List (Int))), A18, cap18, fp13, wr (x3 + 1), rfl, Fr.of hst (by kernel_rfl), F24, F33, F35, G17, G19, (D33).symm, hB, hZ⟩)
   ·have hm := condF hb2 hm
    refine cW_exit ?_
    refine eX_then_exit ?_
    have hq : (some (Ctl.out ((l9, l10))) : Option (Ctl ((List (Int × Int × Int × Int × Int)) × (List (Int)) × Int) ((List (Int × Int × Int × Int × Int)) × (List (Int))))) = some _ := hm
    replace hq := someE hq
    subst hq
    refine eX_outX hx3 (fun hr4 => ?_)
    replace hr4 := hr4.symm
    subst hr4
    refine eX_block_hit ?_
    exact eX_J (fun hst => ⟨l9, A11, cap11, fp10, l10, A12, cap12, fp11, rfl, Fr.of hst (by kernel_rfl), F16, F17, G11, G12, D14, hB, hZ⟩)
  ·rintro a' w25 ⟨l7, A9, cap9, fp8, l8, A10, cap10, fp9, hJ, hF5, F36, F37, G20, G21, D35, hB, hZ⟩
   subst hJ
   refine Fr.goX hF5 (by kernel_rfl) ?_
   refine eX_then ?_
   refine cW_seq ?_
   refine cW_region ?_
   refine wS_pure 4 [(5, .slice A10 (l8).length cap10), (4, .slice A9 (l7).length cap9), (88, .slice A10 (l8).length cap10), (87, .slice A9 (l7).length cap9)] (by kernel_rfl) ?_
   refine wS_end (by rfl) ?_
   refine eX_then ?_
   refine cW_ret ?_
   have hq : (some ((l7, l8)) : Option ((List (Int × Int × Int × Int × Int)) × (List (Int)))) = some _ := hm
   replace hq := someE hq
   subst hq
   refine eX_ret (vs := [.slice A9 (l7).length cap9, .slice A10 (l8).length cap10]) [.tmp 4, .tmp 5] (by rfl) ⟨by (show lkE _ _ _ = _); kernel_rfl, ⟨by (show lkE _ _ _ = _); kernel_rfl, trivial⟩⟩ ?_
   exact ⟨A9, cap9, fp8, A10, cap10, fp9, rfl, F36, G20, F37, G21, (D35).symm, hB⟩

set_option maxRecDepth 100000 in
/-- spec.l06Sum -/
theorem c_spec_l06Sum {w0 : World} {l0 : List (Int)} {A0 : Option Addr} {cap0 : Nat} {fp0 : List Nat} {r : (Int)} (hm : m_spec_l06Sum l0 = some r) (F0 : Sl 1 encI w0 fp0 A0 l0) :
  Calls Try.prog 54 #[.slice A0 (l0).length cap0] w0 fun e w' => e = .returned (.int .i64 (r)) ∧ Chg [] w0 w' := by
 have L0 := F0.low
 have hB : Chg [] w0 w0 := Chg.refl _ _
 have hZ := Nat.le_refl w0.heap.size
 unfold m_spec_l06Sum at hm
 refine enterE (N := 18) Try.func54 (by rfl) Try.ntmps54 (by simp) [(0, .slice A0 (l0).length cap0)] (by rfl) (by kernel_rfl) (fun a => ?_)
 refine cW_seq ?_
 refine cW_region ?_
 refine wS_pure 1 [(2, .int .i64 (0))] (by kernel_rfl) ?_
 refine wS_end (by rfl) ?_
 refine eX_then ?_
 refine cW_seq ?_
 refine cW_region ?_
 refine wS_pure 1 [(3, .int .i64 (0))] (by kernel_rfl) ?_
 refine wS_end (by rfl) ?_
 refine eX_then ?_
 refine cW_seq ?_
 refine cW_seq ?_
 refine cW_region ?_
 refine wS_pure 1 [(4, .int .i64 (0))] (by kernel_rfl) ?_
 refine wS_end (by rfl) ?_
 refine eX_then ?_
 obtain ⟨r1, hr1, hm⟩ := bindE hm
 have hm1 := hm
 refine cW_cut (fun a' w' => ∃ x1 : Int, x1 = r1 ∧ Fr 18 [(3, .int .i64 (x1))] a' ∧ Chg [] w0 w' ∧ w0.heap.size ≤ w'.heap.size) ?_ ?_
 ·refine cW_block ?_
  refine cW_loop _ (fun (s1 : Int × Int) a' w' => ∃ x2 : Int, ∃ x3 : Int, (x2, x3) = s1 ∧ Fr 18 [(0, .slice A0 (l0).length cap0), (3, .int .i64 (x2)), (4, .int .i64 (x3))] a' ∧ Sl 1 encI w' fp0 A0 l0 ∧ Chg [] w0 w' ∧ w0.heap.size ≤ w'.heap.size) hr1 (fun hst => ⟨0, 0, rfl, Fr.of hst (by kernel_rfl), F0, hB, hZ⟩) ?_
  rintro _ c1 a' w1 ⟨x2, x3, rfl, hF1, F1, hB, hZ⟩ hx1
  refine Fr.goOn hF1 (by kernel_rfl) ?_
  have hm := hx1
  unfold m_spec_l06Sum_s1 at hm
  refine cW_seq ?_
  refine cW_seq ?_
  refine cW_region ?_
  refine wS_pure 4 [(8, .bool (decide (x3 < (((l0).length : Int))))), (7, .int .i64 (((l0).length : Int))), (6, .slice A0 (l0).length cap0), (5, .int .i64 (x3))] (by kernel_rfl) ?_
  refine wS_end (by rfl) ?_
  refine eX_then ?_
  refine cW_cond (t := decide (x3 < (((l0).length : Int)))) (by kernel_rfl) (fun hb1 => ?_) (fun hb1 => ?_)
  ·have hm := condT hb1 hm
   refine cW_skip ?_
   refine eX_then ?_
   refine cW_seq ?_
   refine cW_block ?_
   refine cW_region ?_
   refine wS_pure 3 [(13, .int .i64 (x3)), (12, .slice A0 (l0).length cap0), (11, .int .i64 (x2))] (by kernel_rfl) ?_
   obtain ⟨x4, hx2, hm⟩ := bindE hm
   refine wS_idx (d := 14) (T := 32) (A := A0) (n := (l0).length) (cap := cap0) (kd := .i64) (m := x3) (by kernel_rfl) sl32 (F1.is hx2) ?_
   refine wS_load1 (d := 15) (T := 2) (ad := (elA A0 1 (x3) 0)) (v := .int .i64 (x4)) (by kernel_rfl) vt2 (Sl.cell F1 hx2 0 (by rfl)) ?_
   refine wS_pure 2 [(3, .int .i64 (wr (x2 + x4))), (16, .int .i64 (wr (x2 + x4)))] (by kernel_rfl) ?_
   refine wS_end (by rfl) ?_
   refine eX_block ?_
   refine eX_then ?_
   refine cW_region ?_
   refine wS_pure 3 [(4, .int .i64 (wr (x3 + 1))), (10, .int .i64 (wr (x3 + 1))), (9, .int .i64 (x3))] (by kernel_rfl) ?_
   refine wS_end (by rfl) ?_
   have hq : (some (Ctl.next ((wr (x2 + x4), wr (x3 + 1)))) : Option (Ctl (Int × Int) (Int))) = some _ := hm
   replace hq := someE hq
   subst hq
   exact eX_next hx1 (fun hst => ⟨wr (x2 + x4), wr (x3 + 1), rfl, Fr.of hst (by kernel_rfl), F1, hB, hZ⟩)
  ·have hm := condF hb1 hm
   refine cW_exit ?_
   refine eX_then_exit ?_
   have hq : (some (Ctl.out x2) : Option (Ctl (Int × Int) (Int))) = some _ := hm
   replace hq := someE hq
   subst hq
   refine eX_outX hx1 (fun hr2 => ?_)
   replace hr2 := hr2.symm
   subst hr2
   refine eX_block_hit ?_
   exact eX_J (fun hst => ⟨x2, rfl, Fr.of hst (by kernel_rfl), hB, hZ⟩)
 ·rintro a' w2 ⟨x1, hJ, hF2, hB, hZ⟩
  subst hJ
  refine Fr.goX hF2 (by kernel_rfl) ?_
  refine eX_then ?_
  refine cW_seq ?_
  refine cW_region ?_
  refine wS_pure 2 [(2, .int .i64 (x1)), (17, .int .i64 (x1))] (by kernel_rfl) ?_
  refine wS_end (by rfl) ?_
  refine eX_then ?_
  refine cW_ret ?_
  have hq : (some x1 : Option ((Int))) = some _ := hm
  replace hq := someE hq
  subst hq
  refine eX_ret (vs := [.int .i64 (x1)]) [.tmp 2] (by rfl) ⟨by (show lkE _ _ _ = _); kernel_rfl, trivial⟩ ?_
  exact ⟨rfl, hB⟩

set_option maxHeartbeats 20000000 in
set_option maxRecDepth 100000 in
/-- spec.l06Best -/
theorem c_spec_l06Best_body {R : (List (Int × Int)) → (List (List (Int))) → (List (Int)) → Option ((List (List (Int))) × (Int))} (hR : ∀ {w0 : World} {l0 : List (Int × Int)} {A0 : Option Addr} {cap0 : Nat} {fp0 : List Nat} {l1 : List (List (Int))} {A1 : Option Addr} {cap1 : Nat} {fp1 : List Nat} {l2 : List (Int)} {A2 : Option Addr} {cap2 : Nat} {fp2 : List Nat} {r : (List (List (Int))) × (Int)} (hm : R l0 l1 l2 = some r) (F0 : Sl 2 encII w0 fp0 A0 l0) (F1 : SlR 1 encI w0 fp1 A1 l1) (K1 : (l1).length ≤ cap1) (F2 : Sl 1 encI w0 fp2 A2 l2), Calls Try.prog 33 #[.slice A0 (l0).length cap0, .slice A1 (l1).length cap1, .slice A2 (l2).length cap2] w0 fun e w' => ∃ A100 cap100 fp100, e = .returned (.tuple #[.slice A100 (r.1).length cap100, .int .i64 (r.2)]) ∧ SlR 1 encI w' fp100 A100 r.1 ∧ Rt w0.heap.size (fp0 ++ (fp1 ++ (fp2 ++ []))) fp100 ∧ (r.1).length ≤ cap100 ∧ Chg [] w0 w') {w0 : World} {l0 : List (Int × Int)} {A0 : Option Addr} {cap0 : Nat} {fp0 : List Nat} {l1 : List (List (Int))} {A1 : Option Addr} {cap1 : Nat} {fp1 : List Nat} {l2 : List (Int)} {A2 : Option Addr} {cap2 : Nat} {fp2 : List Nat} {r : (List (List (Int))) × (Int)} (hm : m_spec_l06Best_body R l0 l1 l2 = some r) (F0 : Sl 2 encII w0 fp0 A0 l0) (F1 : SlR 1 encI w0 fp1 A1 l1) (K1 : (l1).length ≤ cap1) (F2 : Sl 1 encI w0 fp2 A2 l2) :
  Calls Try.prog 33 #[.slice A0 (l0).length cap0, .slice A1 (l1).length cap1, .slice A2 (l2).length cap2] w0 fun e w' => ∃ A100 cap100 fp100, e = .returned (.tuple #[.slice A100 (r.1).length cap100, .int .i64 (r.2)]) ∧ SlR 1 encI w' fp100 A100 r.1 ∧ Rt w0.heap.size (fp0 ++ (fp1 ++ (fp2 ++ []))) fp100 ∧ (r.1).length ≤ cap100 ∧ Chg [] w0 w' := by
 have L0 := F0.low
 have L1 := F1.low
 have L2 := F2.low
 have hB : Chg [] w0 w0 := Chg.refl _ _
 have hZ := Nat.le_refl w0.heap.size
 unfold m_spec_l06Best_body at hm
 refine enterE (N := 106) Try.func33 (by rfl) Try.ntmps33 (by simp) [(0, .slice A0 (l0).length cap0), (1, .slice A1 (l1).length cap1), (2, .slice A2 (l2).length cap2)] (by rfl) (by kernel_rfl) (fun a => ?_)
 refine cW_seq ?_
 refine cW_region ?_
 refine wS_pure 2 [(7, .int .i64 (0)), (6, .slice none 0 0)] (by kernel_rfl) ?_
 refine wS_end (by rfl) ?_
 refine eX_then ?_
 refine cW_seq ?_
 refine cW_seq ?_
 refine cW_region ?_
 refine wS_pure 3 [(20, .bool ((((l2).length : Int)) == 1)), (19, .int .i64 (((l2).length : Int))), (18, .slice A2 (l2).length cap2)] (by kernel_rfl) ?_
 refine wS_end (by rfl) ?_
 refine eX_then ?_
 refine cW_cond (t := (((l2).length : Int)) == 1) (by kernel_rfl) (fun hb1 => ?_) (fun hb1 => ?_)
 ·have hm := condT hb1 hm
  refine cW_seq ?_
  refine cW_region ?_
  refine wS_pure 2 [(23, .slice A1 (l1).length cap1), (22, .slice A0 (l0).length cap0)] (by kernel_rfl) ?_
  obtain ⟨y1, hy1, hm⟩ := bindE hm
  refine wS_calls (d := 24) (f := 53) (vs := [.slice A0 (l0).length cap0, .slice A1 (l1).length cap1]) (by kernel_rfl) ent53 (c_spec_l06Tree hy1 F0 F1) ?_
  rintro _ w1 ⟨A3, cap3, fp3, A4, cap4, fp4, rfl, F3, G1, F4, G2, D1, hc1⟩
  replace F0 := F0.chg hc1 Dj.nil
  replace F1 := F1.chg hc1 Dj.nil
  replace F2 := F2.chg hc1 Dj.nil
  replace hB := hB.inS hc1 inNil
  replace G1 := low_le hZ G1
  replace G2 := low_le hZ G2
  replace hZ := Nat.le_trans hZ hc1.size
  refine ⟨.tuple #[.slice A3 (y1.1).length cap3, .slice A4 (y1.2).length cap4], rfl, ?_⟩
  refine wS_pure 5 [(9, .slice A4 (y1.2).length cap4), (8, .slice A3 (y1.1).length cap3), (26, .slice A4 (y1.2).length cap4), (25, .slice A3 (y1.1).length cap3), (21, .tuple #[.slice A3 (y1.1).length cap3, .slice A4 (y1.2).length cap4])] (by kernel_rfl) ?_
  refine wS_end (by rfl) ?_
  refine eX_then ?_
  refine cW_seq ?_
  refine cW_region ?_
  refine wS_pure 2 [(28, .slice A4 (y1.2).length cap4), (27, .slice A1 (l1).length cap1)] (by kernel_rfl) ?_
  obtain ⟨y2, hy2, hm⟩ := bindE hm
  refine wS_calls (d := 29) (f := 54) (vs := [.slice A4 (y1.2).length cap4]) (by kernel_rfl) ent54 (c_spec_l06Sum hy2 (F4.sl encI_ok)) ?_
  rintro _ w2 ⟨rfl, hc2⟩
  replace F0 := F0.chg hc2 Dj.nil
  replace F1 := F1.chg hc2 Dj.nil
  replace F2 := F2.chg hc2 Dj.nil
  replace F3 := F3.chg hc2 Dj.nil
  replace F4 := F4.chg hc2 Dj.nil
  replace hB := hB.inS hc2 inNil
  replace hZ := Nat.le_trans hZ hc2.size
  refine ⟨.int .i64 (y2), rfl, ?_⟩
  refine wS_pure 2 [(7, .int .i64 (y2)), (6, .slice A1 (l1).length cap1)] (by kernel_rfl) ?_
  refine wS_end (by rfl) ?_
  refine eX_then ?_
  refine cW_ret ?_
  refine eX_then_ret ?_
  have hq : (some ((l1, y2)) : Option ((List (List (Int))) × (Int))) = some _ := hm
  replace hq := someE hq
  subst hq
  refine eX_ret (vs := [.slice A1 (l1).length cap1, .int .i64 (y2)]) [.tmp 6, .tmp 7] (by rfl) ⟨by (show lkE _ _ _ = _); kernel_rfl, ⟨by (show lkE _ _ _ = _); kernel_rfl, trivial⟩⟩ ?_
  exact ⟨A1, cap1, fp1, rfl, F1, (Rt.mem (fun x hx => (List.mem_append_right _ (List.mem_append_left _ hx)))), K1, hB⟩
 ·have hm := condF hb1 hm
  refine cW_skip ?_
  refine eX_then ?_
  refine cW_seq ?_
  refine cW_region ?_
  refine wS_rows0 (k := 1) (enc := encI) (d := 30) (t := 26) (T := 32) (T2 := 2) (by kernel_rfl) el26 ?_
  intro b1 w3 G3 F5 hc3
  replace F0 := F0.chg hc3 Dj.nil
  replace F1 := F1.chg hc3 Dj.nil
  replace F2 := F2.chg hc3 Dj.nil
  replace hB := hB.inS hc3 inNil
  replace G3 := Nat.le_trans hZ G3
  replace G3 := low1 G3
  replace hZ := Nat.le_trans hZ hc3.size
  replace G3 := lowApp G3 lowNil
  refine wS_pure 1 [(10, .slice (some ⟨b1, 0, none⟩) (([] : List (List (Int)))).length 0)] (by kernel_rfl) ?_
  refine wS_end (by rfl) ?_
  refine eX_then ?_
  refine cW_seq ?_
  refine cW_region ?_
  refine wS_pure 1 [(11, .int .i64 ((-1)))] (by kernel_rfl) ?_
  refine wS_end (by rfl) ?_
  refine eX_then ?_
  refine cW_seq ?_
  refine cW_seq ?_
  refine cW_region ?_
  refine wS_pure 1 [(12, .int .i64 (0))] (by kernel_rfl) ?_
  refine wS_end (by rfl) ?_
  refine eX_then ?_
  obtain ⟨r1, hr1, hm⟩ := bindE hm
  have hm1 := hm
  refine cW_cut (fun a' w' => ∃ l3 : List (List (Int)), ∃ A5 : Option Addr, ∃ cap5 : Nat, ∃ fp5 : List Nat, ∃ x1 : Int, (l3, x1) = r1 ∧ Fr 106 [(10, .slice A5 (l3).length cap5), (11, .int .i64 (x1))] a' ∧ SlR 1 encI w' fp5 A5 l3 ∧ Rt w0.heap.size (fp0 ++ (fp1 ++ (fp2 ++ []))) fp5 ∧ (l3).length ≤ cap5 ∧ Chg [] w0 w' ∧ w0.heap.size ≤ w'.heap.size) ?_ ?_
  ·refine cW_block ?_
   refine cW_loop _ (fun (s1 : (List (List (Int))) × Int × Int) a' w' => ∃ l4 : List (List (Int)), ∃ A6 : Option Addr, ∃ cap6 : Nat, ∃ fp6 : List Nat, ∃ x2 : Int, ∃ x3 : Int, (l4, x2, x3) = s1 ∧ Fr 106 [(0, .slice A0 (l0).length cap0), (1, .slice A1 (l1).length cap1), (2, .slice A2 (l2).length cap2), (10, .slice A6 (l4).length cap6), (11, .int .i64 (x2)), (12, .int .i64 (x3))] a' ∧ Sl 2 encII w' fp0 A0 l0 ∧ SlR 1 encI w' fp1 A1 l1 ∧ Sl 1 encI w' fp2 A2 l2 ∧ SlR 1 encI w' fp6 A6 l4 ∧ Rt w0.heap.size (fp0 ++ (fp1 ++ (fp2 ++ []))) fp6 ∧ (l4).length ≤ cap6 ∧ Chg [] w0 w' ∧ w0.heap.size ≤ w'.heap.size) hr1 (fun hst => ⟨([] : List (List (Int))), (some ⟨b1, 0, none⟩), 0, ([b1] ++ []), (-1), 0, rfl, Fr.of hst (by kernel_rfl), F0, F1, F2, (F5.slr encI_ok), (Rt.low G3), (F5.hr encI_ok).cap_le, hB, hZ⟩) ?_
   rintro _ c1 a' w4 ⟨l4, A6, cap6, fp6, x2, x3, rfl, hF1, F6, F7, F8, F9, Rt1, K2, hB, hZ⟩ hx1
   refine Fr.goOn hF1 (by kernel_rfl) ?_
   have hm := hx1
   unfold m_spec_l06Best_s15 at hm
   refine cW_seq ?_
   refine cW_seq ?_
   refine cW_region ?_
   refine wS_pure 4 [(34, .bool (decide (x3 < (((l2).length : Int))))), (33, .int .i64 (((l2).length : Int))), (32, .slice A2 (l2).length cap2), (31, .int .i64 (x3))] (by kernel_rfl) ?_
   refine wS_end (by rfl) ?_
   refine eX_then ?_
   refine cW_cond (t := decide (x3 < (((l2).length : Int)))) (by kernel_rfl) (fun hb2 => ?_) (fun hb2 => ?_)
   ·have hm := condT hb2 hm
    refine cW_skip ?_
    refine eX_then ?_
    refine cW_seq ?_
    refine cW_block ?_
    refine cW_seq ?_
    refine cW_region ?_
    refine wS_pure 3 [(13, .int .i64 (wr (x3 + 1))), (38, .int .i64 (wr (x3 + 1))), (37, .int .i64 (x3))] (by kernel_rfl) ?_
    refine wS_end (by rfl) ?_
    refine eX_then ?_
    obtain ⟨r2, hr2, hm⟩ := bindE hm
    have hm2 := hm
    refine cW_cut (fun a' w' => ∃ l5 : List (List (Int)), ∃ A7 : Option Addr, ∃ cap7 : Nat, ∃ fp7 : List Nat, ∃ x4 : Int, (l5, x4) = r2 ∧ Fr 106 [(0, .slice A0 (l0).length cap0), (1, .slice A1 (l1).length cap1), (2, .slice A2 (l2).length cap2), (10, .slice A7 (l5).length cap7), (11, .int .i64 (x4)), (12, .int .i64 (x3))] a' ∧ Sl 2 encII w' fp0 A0 l0 ∧ SlR 1 encI w' fp1 A1 l1 ∧ Sl 1 encI w' fp2 A2 l2 ∧ SlR 1 encI w' fp7 A7 l5 ∧ Rt w0.heap.size (fp0 ++ (fp1 ++ (fp2 ++ []))) fp7 ∧ (l5).length ≤ cap7 ∧ Chg [] w0 w' ∧ w0.heap.size ≤ w'.heap.size) ?_ ?_
    ·refine cW_block ?_
     refine cW_loop _ (fun (s2 : (List (List (Int))) × Int × Int) a' w' => ∃ l6 : List (List (Int)), ∃ A8 : Option Addr, ∃ cap8 : Nat, ∃ fp8 : List Nat, ∃ x5 : Int, ∃ x6 : Int, (l6, x5, x6) = s2 ∧ Fr 106 [(0, .slice A0 (l0).length cap0), (1, .slice A1 (l1).length cap1), (2, .slice A2 (l2).length cap2), (10, .slice A8 (l6).length cap8), (11, .int .i64 (x5)), (12, .int .i64 (x3)), (13, .int .i64 (x6))] a' ∧ Sl 2 encII w' fp0 A0 l0 ∧ SlR 1 encI w' fp1 A1 l1 ∧ Sl 1 encI w' fp2 A2 l2 ∧ SlR 1 encI w' fp8 A8 l6 ∧ Rt w0.heap.size (fp0 ++ (fp1 ++ (fp2 ++ []))) fp8 ∧ (l6).length ≤ cap8 ∧ Chg [] w0 w' ∧ w0.heap.size ≤ w'.heap.size) hr2 (fun hst => ⟨l4, A6, cap6, fp6, x2, wr (x3 + 1), rfl, Fr.of hst (by kernel_rfl), F6, F7, F8, F9, Rt1, K2, hB, hZ⟩) ?_
     rintro _ c2 a' w5 ⟨l6, A8, cap8, fp8, x5, x6, rfl, hF2, F10, F11, F12, F13, Rt2, K3, hB, hZ⟩ hx2
     refine Fr.goOn hF2 (by kernel_rfl) ?_
     have hm := hx2
     unfold m_spec_l06Best_s20 at hm
     refine cW_seq ?_
     refine cW_seq ?_
     refine cW_region ?_
     refine wS_pure 4 [(42, .bool (decide (x6 < (((l2).length : Int))))), (41, .int .i64 (((l2).length : Int))), (40, .slice A2 (l2).length cap2), (39, .int .i64 (x6))] (by kernel_rfl) ?_
     refine wS_end (by rfl) ?_
     refine eX_then ?_
     refine cW_cond (t := decide (x6 < (((l2).length : Int)))) (by kernel_rfl) (fun hb3 => ?_) (fun hb3 => ?_)
     ·have hm := condT hb3 hm
      refine cW_skip ?_
      refine eX_then ?_
      refine cW_seq ?_
      refine cW_block ?_
      obtain ⟨s3, hs1, hm⟩ := bindE hm
      refine cW_cut (fun a' w' => ∃ l7 : List (List (Int)), ∃ A9 : Option Addr, ∃ cap9 : Nat, ∃ fp9 : List Nat, ∃ x7 : Int, (l7, x7) = s3 ∧ Fr 106 [(0, .slice A0 (l0).length cap0), (1, .slice A1 (l1).length cap1), (2, .slice A2 (l2).length cap2), (10, .slice A9 (l7).length cap9), (11, .int .i64 (x7)), (12, .int .i64 (x3)), (13, .int .i64 (x6))] a' ∧ Sl 2 encII w' fp0 A0 l0 ∧ SlR 1 encI w' fp1 A1 l1 ∧ Sl 1 encI w' fp2 A2 l2 ∧ SlR 1 encI w' fp9 A9 l7 ∧ Rt w0.heap.size (fp0 ++ (fp1 ++ (fp2 ++ []))) fp9 ∧ (l7).length ≤ cap9 ∧ Chg [] w0 w' ∧ w0.heap.size ≤ w'.heap.size) ?_ ?_
      ·have hm := hs1
       refine cW_seq ?_
       refine cW_region ?_
       refine wS_bs0 (α := Int) (enc := encI) (d := 45) (t := 32) (T := 2) (by kernel_rfl) el32 ?_
       intro b2 w6 G4 F14 hc4
       have D2 : Dj fp8 [b2] := Dj.of F13.low (low1 G4)
       replace F10 := F10.chg hc4 Dj.nil
       replace F11 := F11.chg hc4 Dj.nil
       replace F12 := F12.chg hc4 Dj.nil
       replace F13 := F13.chg hc4 Dj.nil
       replace hB := hB.inS hc4 inNil
       replace G4 := Nat.le_trans hZ G4
       replace G4 := low1 G4
       replace hZ := Nat.le_trans hZ hc4.size
       refine wS_pure 1 [(14, .slice (some ⟨b2, 0, none⟩) (([] : List (Int))).length 0)] (by kernel_rfl) ?_
       refine wS_end (by rfl) ?_
       refine eX_then ?_
       refine cW_seq ?_
       refine cW_seq ?_
       refine cW_region ?_
       refine wS_pure 1 [(15, .int .i64 (0))] (by kernel_rfl) ?_
       refine wS_end (by rfl) ?_
       refine eX_then ?_
       obtain ⟨r3, hr3, hm⟩ := bindE hm
       have hm3 := hm
       refine cW_cut (fun a' w' => ∃ l8 : List (Int), ∃ A10 : Option Addr, ∃ cap10 : Nat, ∃ fp10 : List Nat, l8 = r3 ∧ Fr 106 [(0, .slice A0 (l0).length cap0), (1, .slice A1 (l1).length cap1), (2, .slice A2 (l2).length cap2), (10, .slice A8 (l6).length cap8), (11, .int .i64 (x5)), (12, .int .i64 (x3)), (13, .int .i64 (x6)), (14, .slice A10 (l8).length cap10)] a' ∧ Sl 2 encII w' fp0 A0 l0 ∧ SlR 1 encI w' fp1 A1 l1 ∧ Sl 1 encI w' fp2 A2 l2 ∧ SlR 1 encI w' fp8 A8 l6 ∧ Ow 1 encI 2 w' fp10 A10 cap10 l8 ∧ (∀ x ∈ fp10, w0.heap.size ≤ x) ∧ Dj fp8 fp10 ∧ Chg [] w0 w' ∧ w0.heap.size ≤ w'.heap.size) ?_ ?_
       ·refine cW_block ?_
        refine cW_loop _ (fun (s4 : (List (Int)) × Int) a' w' => ∃ l9 : List (Int), ∃ A11 : Option Addr, ∃ cap11 : Nat, ∃ fp11 : List Nat, ∃ x8 : Int, (l9, x8) = s4 ∧ Fr 106 [(0, .slice A0 (l0).length cap0), (1, .slice A1 (l1).length cap1), (2, .slice A2 (l2).length cap2), (10, .slice A8 (l6).length cap8), (11, .int .i64 (x5)), (12, .int .i64 (x3)), (13, .int .i64 (x6)), (14, .slice A11 (l9).length cap11), (15, .int .i64 (x8))] a' ∧ Sl 2 encII w' fp0 A0 l0 ∧ SlR 1 encI w' fp1 A1 l1 ∧ Sl 1 encI w' fp2 A2 l2 ∧ SlR 1 encI w' fp8 A8 l6 ∧ Ow 1 encI 2 w' fp11 A11 cap11 l9 ∧ (∀ x ∈ fp11, w0.heap.size ≤ x) ∧ Dj fp8 fp11 ∧ Chg [] w0 w' ∧ w0.heap.size ≤ w'.heap.size) hr3 (fun hst => ⟨([] : List (Int)), (some ⟨b2, 0, none⟩), 0, [b2], 0, rfl, Fr.of hst (by kernel_rfl), F10, F11, F12, F13, F14, G4, D2, hB, hZ⟩) ?_
        rintro _ c3 a' w7 ⟨l9, A11, cap11, fp11, x8, rfl, hF3, F15, F16, F17, F18, F19, G5, D3, hB, hZ⟩ hx3
        refine Fr.goOn hF3 (by kernel_rfl) ?_
        have hm := hx3
        unfold m_spec_l06Best_s22 at hm
        refine cW_seq ?_
        refine cW_seq ?_
        refine cW_region ?_
        refine wS_pure 4 [(49, .bool (decide (x8 < (((l2).length : Int))))), (48, .int .i64 (((l2).length : Int))), (47, .slice A2 (l2).length cap2), (46, .int .i64 (x8))] (by kernel_rfl) ?_
        refine wS_end (by rfl) ?_
        refine eX_then ?_
        refine cW_cond (t := decide (x8 < (((l2).length : Int)))) (by kernel_rfl) (fun hb4 => ?_) (fun hb4 => ?_)
        ·have hm := condT hb4 hm
         refine cW_skip ?_
         refine eX_then ?_
         refine cW_seq ?_
         refine cW_block ?_
         obtain ⟨s5, hs2, hm⟩ := bindE hm
         refine cW_cut (fun a' w' => ∃ l10 : List (Int), ∃ A12 : Option Addr, ∃ cap12 : Nat, ∃ fp12 : List Nat, l10 = s5 ∧ Fr 106 [(0, .slice A0 (l0).length cap0), (1, .slice A1 (l1).length cap1), (2, .slice A2 (l2).length cap2), (10, .slice A8 (l6).length cap8), (11, .int .i64 (x5)), (12, .int .i64 (x3)), (13, .int .i64 (x6)), (14, .slice A12 (l10).length cap12), (15, .int .i64 (x8))] a' ∧ Sl 2 encII w' fp0 A0 l0 ∧ SlR 1 encI w' fp1 A1 l1 ∧ Sl 1 encI w' fp2 A2 l2 ∧ SlR 1 encI w' fp8 A8 l6 ∧ Ow 1 encI 2 w' fp12 A12 cap12 l10 ∧ (∀ x ∈ fp12, w0.heap.size ≤ x) ∧ Dj fp8 fp12 ∧ Chg [] w0 w' ∧ w0.heap.size ≤ w'.heap.size) ?_ ?_
         ·have hm := hs2
          refine cW_seq ?_
          refine cW_region ?_
          refine wS_pure 4 [(55, .bool (x8 != x3)), (54, .bool (x8 != x3)), (53, .int .i64 (x3)), (52, .int .i64 (x8))] (by kernel_rfl) ?_
          refine wS_bool (x8 != x3) (fun hb5 => ?_) (fun hb5 => ?_)
          ·have hm := condT hb5 hm
           rewrite [hb5]
           refine wS_pure 4 [(59, .bool (x8 != x6)), (58, .bool (x8 != x6)), (57, .int .i64 (x6)), (56, .int .i64 (x8))] (by kernel_rfl) ?_
           refine wS_end (by rfl) ?_
           refine eX_then ?_
           refine cW_cond (t := x8 != x6) (by kernel_rfl) (fun hb6 => ?_) (fun hb6 => ?_)
           ·have hm := condT hb6 hm
            refine cW_region ?_
            refine wS_pure 3 [(62, .int .i64 (x8)), (61, .slice A2 (l2).length cap2), (60, .slice A11 (l9).length cap11)] (by kernel_rfl) ?_
            obtain ⟨x9, hx4, hm⟩ := bindE hm
            refine wS_idx (d := 63) (T := 32) (A := A2) (n := (l2).length) (cap := cap2) (kd := .i64) (m := x8) (by kernel_rfl) sl32 (F17.is hx4) ?_
            refine wS_load1 (d := 64) (T := 2) (ad := (elA A2 1 (x8) 0)) (v := .int .i64 (x9)) (by kernel_rfl) vt2 (Sl.cell F17 hx4 0 (by rfl)) ?_
            refine wS_bs (enc := encI) ([x9] : List (Int)) [.int .i64 (x9)] (d := 65) (t := 32) (T := 2) (n := 1) (ps := [(0, .int .i64 (x9))]) (by kernel_rfl) el32 encI_ok (by rfl) (by omega) (by omega) (by kernel_rfl) (by rfl) ?_
            intro b3 w8 G6 F20 hc5
            have D4 : Dj fp8 [b3] := Dj.of F18.low (low1 G6)
            have D5 : Dj fp11 [b3] := Dj.of F19.low (low1 G6)
            replace F15 := F15.chg hc5 Dj.nil
            replace F16 := F16.chg hc5 Dj.nil
            replace F17 := F17.chg hc5 Dj.nil
            replace F18 := F18.chg hc5 Dj.nil
            replace F19 := F19.chg hc5 Dj.nil
            replace hB := hB.inS hc5 inNil
            replace G6 := Nat.le_trans hZ G6
            replace G6 := low1 G6
            replace hZ := Nat.le_trans hZ hc5.size
            obtain ⟨_, hk1, hm⟩ := bindE hm
            replace hk1 := apE hk1
            refine wS_append (enc := encI) (l := (l9 : List (Int))) (l2 := (([x9] : List (Int)) : List (Int))) (d := 66) (t := 32) (T := 2) (A := A11) (A2 := (some ⟨b3, 0, none⟩)) (cap := cap11) (cap2 := 1) (by kernel_rfl) el32 encI_ok F19 (F20.sl encI_ok) (by rfl) hk1 ?_
            intro w9 fp13 A13 cap13 F21 hc6 hp1
            have G7 := low_ap G5 hZ hp1
            have D6 : Dj fp8 fp13 := Dj.ap D3 F18.low hp1
            have D7 : Dj [b3] fp13 := Dj.ap (D5).symm F20.low hp1
            replace F15 := F15.chg hc6 (Dj.of L0 G5)
            replace F16 := F16.chg hc6 (Dj.of L1 G5)
            replace F17 := F17.chg hc6 (Dj.of L2 G5)
            replace F18 := F18.chg hc6 D3
            replace F20 := F20.chg hc6 (D5).symm
            replace hB := hB.inS hc6 (inLow G5)
            replace hZ := Nat.le_trans hZ hc6.size
            refine wS_pure 1 [(14, .slice A13 (l9 ++ (([x9] : List (Int)))).length cap13)] (by kernel_rfl) ?_
            refine wS_end (by rfl) ?_
            have hq : (some (l9 ++ (([x9] : List (Int)))) : Option ((List (Int)))) = some _ := hm
            replace hq := someE hq
            subst hq
            exact eX_J (fun hst => ⟨l9 ++ (([x9] : List (Int))), A13, cap13, fp13, rfl, Fr.of hst (by kernel_rfl), F15, F16, F17, F18, F21, G7, D6, hB, hZ⟩)
           ·have hm := condF hb6 hm
            refine cW_skip ?_
            have hq : (some l9 : Option ((List (Int)))) = some _ := hm
            replace hq := someE hq
            subst hq
            exact eX_J (fun hst => ⟨l9, A11, cap11, fp11, rfl, Fr.of hst (by kernel_rfl), F15, F16, F17, F18, F19, G5, D3, hB, hZ⟩)
          ·have hm := condF hb5 hm
           rewrite [hb5]
           refine wS_pure 4 [(59, .bool (false)), (58, undef), (57, undef), (56, undef)] (by kernel_rfl) ?_
           refine wS_end (by rfl) ?_
           refine eX_then ?_
           refine cW_cond_f (by kernel_rfl) ?_
           refine cW_skip ?_
           have hq : (some l9 : Option ((List (Int)))) = some _ := hm
           replace hq := someE hq
           subst hq
           exact eX_J (fun hst => ⟨l9, A11, cap11, fp11, rfl, Fr.of hst (by kernel_rfl), F15, F16, F17, F18, F19, G5, D3, hB, hZ⟩)
         ·rintro a' w10 ⟨l10, A12, cap12, fp12, hJ, hF4, F22, F23, F24, F25, F26, G8, D8, hB, hZ⟩
          subst hJ
          refine Fr.goX hF4 (by kernel_rfl) ?_
          refine eX_block ?_
          refine eX_then ?_
          refine cW_region ?_
          refine wS_pure 3 [(15, .int .i64 (wr (x8 + 1))), (51, .int .i64 (wr (x8 + 1))), (50, .int .i64 (x8))] (by kernel_rfl) ?_
          refine wS_end (by rfl) ?_
          have hq : (some (Ctl.next ((l10, wr (x8 + 1)))) : Option (Ctl ((List (Int)) × Int) ((List (Int))))) = some _ := hm
          replace hq := someE hq
          subst hq
          exact eX_next hx3 (fun hst => ⟨l10, A12, cap12, fp12, wr (x8 + 1), rfl, Fr.of hst (by kernel_rfl), F22, F23, F24, F25, F26, G8, D8, hB, hZ⟩)
        ·have hm := condF hb4 hm
         refine cW_exit ?_
         refine eX_then_exit ?_
         have hq : (some (Ctl.out l9) : Option (Ctl ((List (Int)) × Int) ((List (Int))))) = some _ := hm
         replace hq := someE hq
         subst hq
         refine eX_outX hx3 (fun hr4 => ?_)
         replace hr4 := hr4.symm
         subst hr4
         refine eX_block_hit ?_
         exact eX_J (fun hst => ⟨l9, A11, cap11, fp11, rfl, Fr.of hst (by kernel_rfl), F15, F16, F17, F18, F19, G5, D3, hB, hZ⟩)
       ·rintro a' w11 ⟨l8, A10, cap10, fp10, hJ, hF5, F27, F28, F29, F30, F31, G9, D9, hB, hZ⟩
        subst hJ
        refine Fr.goX hF5 (by kernel_rfl) ?_
        refine eX_then ?_
        refine cW_seq ?_
        refine cW_region ?_
        refine wS_pure 6 [(72, .int .i64 (wr ((((l0).length : Int)) + (((l1).length : Int))))), (71, .int .i64 (((l1).length : Int))), (70, .slice A1 (l1).length cap1), (69, .int .i64 (((l0).length : Int))), (68, .slice A0 (l0).length cap0), (67, .slice A10 (l8).length cap10)] (by kernel_rfl) ?_
        refine wS_bs (enc := encI) ([wr ((((l0).length : Int)) + (((l1).length : Int)))] : List (Int)) [.int .i64 (wr ((((l0).length : Int)) + (((l1).length : Int))))] (d := 73) (t := 32) (T := 2) (n := 1) (ps := [(0, .int .i64 (wr ((((l0).length : Int)) + (((l1).length : Int)))))]) (by kernel_rfl) el32 encI_ok (by rfl) (by omega) (by omega) (by kernel_rfl) (by rfl) ?_
        intro b4 w12 G10 F32 hc7
        have D10 : Dj fp8 [b4] := Dj.of F30.low (low1 G10)
        have D11 : Dj fp10 [b4] := Dj.of F31.low (low1 G10)
        replace F27 := F27.chg hc7 Dj.nil
        replace F28 := F28.chg hc7 Dj.nil
        replace F29 := F29.chg hc7 Dj.nil
        replace F30 := F30.chg hc7 Dj.nil
        replace F31 := F31.chg hc7 Dj.nil
        replace hB := hB.inS hc7 inNil
        replace G10 := Nat.le_trans hZ G10
        replace G10 := low1 G10
        replace hZ := Nat.le_trans hZ hc7.size
        obtain ⟨_, hk2, hm⟩ := bindE hm
        replace hk2 := apE hk2
        refine wS_append (enc := encI) (l := (l8 : List (Int))) (l2 := (([wr ((((l0).length : Int)) + (((l1).length : Int)))] : List (Int)) : List (Int))) (d := 74) (t := 32) (T := 2) (A := A10) (A2 := (some ⟨b4, 0, none⟩)) (cap := cap10) (cap2 := 1) (by kernel_rfl) el32 encI_ok F31 (F32.sl encI_ok) (by rfl) hk2 ?_
        intro w13 fp14 A14 cap14 F33 hc8 hp2
        have G11 := low_ap G9 hZ hp2
        have D12 : Dj fp8 fp14 := Dj.ap D9 F30.low hp2
        have D13 : Dj [b4] fp14 := Dj.ap (D11).symm F32.low hp2
        replace F27 := F27.chg hc8 (Dj.of L0 G9)
        replace F28 := F28.chg hc8 (Dj.of L1 G9)
        replace F29 := F29.chg hc8 (Dj.of L2 G9)
        replace F30 := F30.chg hc8 D9
        replace F32 := F32.chg hc8 (D11).symm
        replace hB := hB.inS hc8 (inLow G9)
        replace hZ := Nat.le_trans hZ hc8.size
        refine wS_pure 1 [(14, .slice A14 (l8 ++ (([wr ((((l0).length : Int)) + (((l1).length : Int)))] : List (Int)))).length cap14)] (by kernel_rfl) ?_
        refine wS_end (by rfl) ?_
        refine eX_then ?_
        refine cW_seq ?_
        obtain ⟨s6, hs3, hm⟩ := bindE hm
        refine cW_cut (fun a' w' => ∃ l11 : List (List (Int)), ∃ A15 : Option Addr, ∃ cap15 : Nat, ∃ fp15 : List Nat, ∃ x10 : Int, (l11, x10) = s6 ∧ Fr 106 [(0, .slice A0 (l0).length cap0), (1, .slice A1 (l1).length cap1), (2, .slice A2 (l2).length cap2), (10, .slice A8 (l6).length cap8), (11, .int .i64 (x5)), (12, .int .i64 (x3)), (13, .int .i64 (x6)), (16, .slice A15 (l11).length cap15), (17, .int .i64 (x10))] a' ∧ Sl 2 encII w' fp0 A0 l0 ∧ SlR 1 encI w' fp1 A1 l1 ∧ Sl 1 encI w' fp2 A2 l2 ∧ SlR 1 encI w' fp8 A8 l6 ∧ SlR 1 encI w' fp15 A15 l11 ∧ Rt w0.heap.size (fp0 ++ (fp1 ++ (fp2 ++ []))) fp15 ∧ (l11).length ≤ cap15 ∧ Chg [] w0 w' ∧ w0.heap.size ≤ w'.heap.size) ?_ ?_
        ·have hm := hs3
         refine cW_drawnTail [] 21 (by kernel_rfl) (by kernel_rfl) (fun w14 hc9 => ?_)
         replace F27 := F27.chg hc9 Dj.nil
         replace F28 := F28.chg hc9 Dj.nil
         replace F29 := F29.chg hc9 Dj.nil
         replace F30 := F30.chg hc9 Dj.nil
         replace F32 := F32.chg hc9 Dj.nil
         replace F33 := F33.chg hc9 Dj.nil
         replace hB := hB.inS hc9 inNil
         replace hZ := Nat.le_trans hZ hc9.size
         have hS := Chg.refl [] w14
         have Z1 := F27
         have Z2 := F28
         have Z3 := F29
         have Z4 := F30
         have Z5 := F32
         have Z6 := F33
         refine wH_take [0, 2, 4, 5] [5, 4, 2, 0] [(81, .int .i64 (x3)), (80, .slice A2 (l2).length cap2), (78, .slice A1 (l1).length cap1), (76, .slice A0 (l0).length cap0)] (by kernel_rfl) (qT (qT (qT (qT (qB (qT (qL (qB (qT (qB (qT (qL (qB (qT (qT qZ))))))))))))))) (by kernel_rfl) ?_
         obtain ⟨x11, hx5, hm⟩ := bindE hm
         refine wH_idx (i := 6) (d := 82) (T := 32) (A := A2) (n := (l2).length) (cap := cap2) (kd := .i64) (m := x3) (by kernel_rfl) (qT (qT (qT (qT (qB (qT (qL (qB (qT (qB (qT (qL (qB (qT (qT qZ))))))))))))))) (by kernel_rfl) (by kernel_rfl) sl32 (F29.is hx5) ?_
         refine wH_load1 (i := 7) (d := 83) (T := 2) (ad := (elA A2 1 (x3) 0)) (v := .int .i64 (x11)) (by kernel_rfl) (qT (qT (qT (qT (qB (qT (qL (qB (qT (qB (qT (qL (qB (qT (qT qZ))))))))))))))) (by kernel_rfl) (by kernel_rfl) vt2 (fun W hW => Sl.cell (Z3.chg hW Dj.nil) hx5 0 (by rfl)) ?_
         refine wH_take [8, 9] [9, 8, 7, 6, 5, 4, 2, 0] [(85, .int .i64 (x6)), (84, .slice A2 (l2).length cap2)] (by kernel_rfl) (qT (qT (qT (qT (qB (qT (qL (qB (qT (qB (qT (qL (qB (qT (qT qZ))))))))))))))) (by kernel_rfl) ?_
         obtain ⟨x12, hx6, hm⟩ := bindE hm
         refine wH_idx (i := 10) (d := 86) (T := 32) (A := A2) (n := (l2).length) (cap := cap2) (kd := .i64) (m := x6) (by kernel_rfl) (qT (qT (qT (qT (qB (qT (qL (qB (qT (qB (qT (qL (qB (qT (qT qZ))))))))))))))) (by kernel_rfl) (by kernel_rfl) sl32 (F29.is hx6) ?_
         refine wH_load1 (i := 11) (d := 87) (T := 2) (ad := (elA A2 1 (x6) 0)) (v := .int .i64 (x12)) (by kernel_rfl) (qT (qT (qT (qT (qB (qT (qL (qB (qT (qB (qT (qL (qB (qT (qT qZ))))))))))))))) (by kernel_rfl) (by kernel_rfl) vt2 (fun W hW => Sl.cell (Z3.chg hW Dj.nil) hx6 0 (by rfl)) ?_
         refine wH_take [15] [15, 11, 10, 9, 8, 7, 6, 5, 4, 2, 0] [(91, .slice A14 (l8 ++ (([wr ((((l0).length : Int)) + (((l1).length : Int)))] : List (Int)))).length cap14)] (by kernel_rfl) (qT (qT (qT (qT (qB (qT (qL (qB (qT (qB (qT (qL (qB (qT (qT qZ))))))))))))))) (by kernel_rfl) ?_
         refine wH_all [1, 12] (by rfl) (by kernel_rfl) (by simp) ⟨⟨by kernel_rfl, ?_⟩, ⟨by kernel_rfl, ?_⟩, trivial⟩
         ·skip
          refine wS_rows0 (k := 1) (enc := encI) (d := 77) (t := 26) (T := 32) (T2 := 2) (by kernel_rfl) el26 ?_
          intro b5 w15 G12 F34 hc10
          have D14 : Dj fp8 ([b5] ++ []) := Dj.of F30.low (lowApp (low1 G12) lowNil)
          have D15 : Dj [b4] ([b5] ++ []) := Dj.of F32.low (lowApp (low1 G12) lowNil)
          have D16 : Dj fp14 ([b5] ++ []) := Dj.of F33.low (lowApp (low1 G12) lowNil)
          replace F27 := F27.chg hc10 Dj.nil
          replace F28 := F28.chg hc10 Dj.nil
          replace F29 := F29.chg hc10 Dj.nil
          replace F30 := F30.chg hc10 Dj.nil
          replace F32 := F32.chg hc10 Dj.nil
          replace F33 := F33.chg hc10 Dj.nil
          replace hB := hB.inS hc10 inNil
          have hSz := hS
          replace hS := hS.inS hc10 inNil
          have Gz1 := low1 (Nat.le_trans hSz.size G12)
          replace G12 := Nat.le_trans hZ G12
          replace G12 := low1 G12
          replace hZ := Nat.le_trans hZ hc10.size
          replace G12 := lowApp G12 lowNil
          replace Gz1 := lowApp Gz1 lowNil
          refine wS_end (by kernel_rfl) ?_
          refine eX_KH hS ?_
          refine wH_all [3, 12] (by rfl) (by kernel_rfl) (by simp) ⟨⟨by kernel_rfl, ?_⟩, ⟨by kernel_rfl, ?_⟩, trivial⟩
          ·skip
           obtain ⟨_, hk3, hm⟩ := bindE hm
           replace hk3 := apE hk3
           refine wS_appendHR (k := 1) (enc := encI) (ll := (([] : List (List (Int))) : List (List (Int)))) (ll2 := (l1 : List (List (Int)))) (d := 79) (t := 26) (T := 32) (A := (some ⟨b5, 0, none⟩)) (A2 := A1) (cap := 0) (cap2 := cap1) (by kernel_rfl) el26 (F34.hr encI_ok) F28 (fun y hy hz => (Dj.of L1 G12).symm y (List.mem_append_left _ hy) hz) hk3 ?_
           intro w16 fp16 A16 cap16 F35 hc11 hp3
           have K4 := F35.cap_le
           have F36 := F35.slr
           have Gm1 := low_ap (low_inl G12) hZ hp3
           have Rt3 : Rt w0.heap.size (fp0 ++ (fp1 ++ (fp2 ++ []))) (fp16 ++ ([] ++ fp1)) := Rt.app (Rt.low Gm1) (Rt.app (Rt.inr (Rt.low G12)) (Rt.mem (fun x hx => (List.mem_append_right _ (List.mem_append_left _ hx)))))
           have D17 : Dj fp8 fp16 := Dj.ap (Dj.inl D14) F30.low hp3
           have D18 : Dj [b4] fp16 := Dj.ap (Dj.inl D15) F32.low hp3
           have D19 : Dj fp14 fp16 := Dj.ap (Dj.inl D16) F33.low hp3
           have D20 : Dj [b4] (fp16 ++ ([] ++ fp1)) := Dj.app (Dj.ap (Dj.inl D15) F32.low hp3) (Dj.app (Dj.inr D15) (Dj.of L1 G10).symm)
           have D21 : Dj fp14 (fp16 ++ ([] ++ fp1)) := Dj.app (Dj.ap (Dj.inl D16) F33.low hp3) (Dj.app (Dj.inr D16) (Dj.of L1 G11).symm)
           replace F27 := F27.chg hc11 (Dj.inl (Dj.of L0 G12))
           replace F28 := F28.chg hc11 (Dj.inl (Dj.of L1 G12))
           replace F29 := F29.chg hc11 (Dj.inl (Dj.of L2 G12))
           replace F30 := F30.chg hc11 (Dj.inl D14)
           replace F32 := F32.chg hc11 (Dj.inl D15)
           replace F33 := F33.chg hc11 (Dj.inl D16)
           replace hB := hB.inS hc11 (memS_inl (inLow G12))
           have hSz := hS
           replace hS := hS.inS hc11 (inLow (low_inl Gz1))
           have Sn1 := sin_ap (Sg := []) (inLow (low_inl Gz1)) hSz.size hp3
           replace hZ := Nat.le_trans hZ hc11.size
           refine wS_end (by kernel_rfl) ?_
           refine eX_KH hS ?_
           refine wH_all [12] (by rfl) (by kernel_rfl) (by simp) ⟨⟨by kernel_rfl, ?_⟩, trivial⟩
           refine wS_bs (enc := encI) ([x11, x12] : List (Int)) [.int .i64 (x11), .int .i64 (x12)] (d := 88) (t := 32) (T := 2) (n := 2) (ps := [(0, .int .i64 (x11)), (1, .int .i64 (x12))]) (by kernel_rfl) el32 encI_ok (by rfl) (by omega) (by omega) (by kernel_rfl) (by rfl) ?_
           intro b6 w17 G13 F37 hc12
           have D22 : Dj fp8 [b6] := Dj.of F30.low (low1 G13)
           have D23 : Dj [b4] [b6] := Dj.of F32.low (low1 G13)
           have D24 : Dj fp14 [b6] := Dj.of F33.low (low1 G13)
           have D25 : Dj (fp16 ++ ([] ++ fp1)) [b6] := Dj.of F36.low (low1 G13)
           replace F27 := F27.chg hc12 Dj.nil
           replace F28 := F28.chg hc12 Dj.nil
           replace F29 := F29.chg hc12 Dj.nil
           replace F30 := F30.chg hc12 Dj.nil
           replace F32 := F32.chg hc12 Dj.nil
           replace F33 := F33.chg hc12 Dj.nil
           replace F36 := F36.chg hc12 Dj.nil
           replace F35 := F35.chg hc12 Dj.nil
           replace hB := hB.inS hc12 inNil
           have hSz := hS
           replace hS := hS.inS hc12 inNil
           have Gz2 := low1 (Nat.le_trans hSz.size G13)
           replace G13 := Nat.le_trans hZ G13
           replace G13 := low1 G13
           replace hZ := Nat.le_trans hZ hc12.size
           refine wS_end (by kernel_rfl) ?_
           refine eX_KH hS ?_
           refine wH_all [13] (by rfl) (by kernel_rfl) (by simp) ⟨⟨by kernel_rfl, ?_⟩, trivial⟩
           refine wS_row1 (k := 1) (enc := encI) (l := ([x11, x12] : List (Int))) (d := 89) (t := 26) (T := 32) (B := (some ⟨b6, 0, none⟩)) (c := 2) (by kernel_rfl) el26 F37 ?_
           intro b7 w18 G14 F38 hc13
           have D26 : Dj fp8 ([b7] ++ [b6]) := Dj.app (Dj.of F30.low (low1 G14)) D22
           have D27 : Dj [b4] ([b7] ++ [b6]) := Dj.app (Dj.of F32.low (low1 G14)) D23
           have D28 : Dj fp14 ([b7] ++ [b6]) := Dj.app (Dj.of F33.low (low1 G14)) D24
           have D29 : Dj (fp16 ++ ([] ++ fp1)) ([b7] ++ [b6]) := Dj.app (Dj.of F36.low (low1 G14)) D25
           replace F27 := F27.chg hc13 Dj.nil
           replace F28 := F28.chg hc13 Dj.nil
           replace F29 := F29.chg hc13 Dj.nil
           replace F30 := F30.chg hc13 Dj.nil
           replace F32 := F32.chg hc13 Dj.nil
           replace F33 := F33.chg hc13 Dj.nil
           replace F36 := F36.chg hc13 Dj.nil
           replace F35 := F35.chg hc13 Dj.nil
           replace F37 := F37.chg hc13 Dj.nil
           replace hB := hB.inS hc13 inNil
           have hSz := hS
           replace hS := hS.inS hc13 inNil
           replace G14 := Nat.le_trans hZ G14
           replace G14 := lowApp (low1 G14) G13
           replace hZ := Nat.le_trans hZ hc13.size
           replace F37 := (F37.sl encI_ok)
           refine wS_end (by kernel_rfl) ?_
           refine eX_KH hS ?_
           refine wH_all [14] (by rfl) (by kernel_rfl) (by simp) ⟨⟨by kernel_rfl, ?_⟩, trivial⟩
           obtain ⟨_, hk4, hm⟩ := bindE hm
           replace hk4 := apE hk4
           refine wS_appendHR (k := 1) (enc := encI) (ll := ((([] : List (List (Int)))) ++ l1 : List (List (Int)))) (ll2 := (([([x11, x12] : List (Int))] : List (List (Int))) : List (List (Int)))) (d := 90) (t := 26) (T := 32) (A := A16) (A2 := (some ⟨b7, 0, none⟩)) (cap := cap16) (cap2 := 1) (by kernel_rfl) el26 F35 (F38.slr encI_ok) (fun y hy hz => D29 y (List.mem_append_left _ hy) hz) hk4 ?_
           intro w19 fp17 A17 cap17 F39 hc14 hp4
           have K5 := F39.cap_le
           have F40 := F39.slr
           have Gm2 := low_ap Gm1 hZ hp4
           have Rt4 : Rt w0.heap.size (fp0 ++ (fp1 ++ (fp2 ++ []))) (fp17 ++ (([] ++ fp1) ++ ([b7] ++ [b6]))) := Rt.app (Rt.low Gm2) (Rt.app (Rt.inr Rt3) (Rt.low G14))
           have D30 : Dj fp8 fp17 := Dj.ap D17 F30.low hp4
           have D31 : Dj [b4] fp17 := Dj.ap D18 F32.low hp4
           have D32 : Dj fp14 fp17 := Dj.ap D19 F33.low hp4
           have D33 : Dj [b6] fp17 := Dj.ap (Dj.inl (D25).symm) F37.low hp4
           have D34 : Dj ([b7] ++ [b6]) fp17 := Dj.ap (Dj.inl (D29).symm) F38.low hp4
           have D35 : Dj [b4] (fp17 ++ (([] ++ fp1) ++ ([b7] ++ [b6]))) := Dj.app (Dj.ap (Dj.inl D20) F32.low hp4) (Dj.app (Dj.inr D20) D27)
           have D36 : Dj fp14 (fp17 ++ (([] ++ fp1) ++ ([b7] ++ [b6]))) := Dj.app (Dj.ap (Dj.inl D21) F33.low hp4) (Dj.app (Dj.inr D21) D28)
           replace F27 := F27.chg hc14 (Dj.of L0 Gm1)
           replace F28 := F28.chg hc14 (Dj.of L1 Gm1)
           replace F29 := F29.chg hc14 (Dj.of L2 Gm1)
           replace F30 := F30.chg hc14 D17
           replace F32 := F32.chg hc14 D18
           replace F33 := F33.chg hc14 D19
           replace F37 := F37.chg hc14 (Dj.inl (D25).symm)
           replace F38 := F38.chg hc14 (Dj.inl (D29).symm)
           replace hB := hB.inS hc14 (inLow Gm1)
           have hSz := hS
           replace hS := hS.inS hc14 Sn1
           have Sn2 := sin_ap (Sg := []) Sn1 hSz.size hp4
           replace hZ := Nat.le_trans hZ hc14.size
           refine wS_end (by kernel_rfl) ?_
           refine eX_KH hS ?_
           refine wH_all [16] (by rfl) (by kernel_rfl) (by simp) ⟨⟨by kernel_rfl, ?_⟩, trivial⟩
           obtain ⟨y3, hy3, hm⟩ := bindE hm
           refine wS_calls (d := 92) (f := 33) (vs := [.slice A0 (l0).length cap0, .slice A17 (((([] : List (List (Int)))) ++ l1) ++ (([([x11, x12] : List (Int))] : List (List (Int))))).length cap17, .slice A14 (l8 ++ (([wr ((((l0).length : Int)) + (((l1).length : Int)))] : List (Int)))).length cap14]) (by kernel_rfl) ent33 (hR hy3 F27 F40 K5 (F33.sl encI_ok)) ?_
           rintro _ w20 ⟨A18, cap18, fp18, rfl, F41, G15, K6, hc15⟩
           have Rt5 : Rt w0.heap.size (fp0 ++ (fp1 ++ (fp2 ++ []))) fp18 := Rt.of G15 hZ (Rt.app (Rt.mem (fun x hx => (List.mem_append_left _ hx))) (Rt.app Rt4 (Rt.app (Rt.low G11) Rt.nil)))
           have D37 : Dj [b4] fp18 := Rt.dj G15 F32.low (Dj.app (Dj.of L0 G10).symm (Dj.app D35 (Dj.app D13 Dj.nil)))
           replace F27 := F27.chg hc15 Dj.nil
           replace F28 := F28.chg hc15 Dj.nil
           replace F29 := F29.chg hc15 Dj.nil
           replace F30 := F30.chg hc15 Dj.nil
           replace F32 := F32.chg hc15 Dj.nil
           replace F33 := F33.chg hc15 Dj.nil
           replace F37 := F37.chg hc15 Dj.nil
           replace F38 := F38.chg hc15 Dj.nil
           replace F40 := F40.chg hc15 Dj.nil
           replace F39 := F39.chg hc15 Dj.nil
           replace hB := hB.inS hc15 inNil
           have hSz := hS
           replace hS := hS.inS hc15 inNil
           replace hZ := Nat.le_trans hZ hc15.size
           refine ⟨.tuple #[.slice A18 (y3.1).length cap18, .int .i64 (y3.2)], rfl, ?_⟩
           refine wS_end (by kernel_rfl) ?_
           refine eX_KH hS ?_
           refine wH_take [17, 18, 19, 20] [20, 19, 18, 17, 16, 14, 13, 12, 3, 1, 15, 11, 10, 9, 8, 7, 6, 5, 4, 2, 0] [(16, .slice A18 (y3.1).length cap18), (94, .int .i64 (y3.2)), (93, .slice A18 (y3.1).length cap18), (75, .tuple #[.slice A18 (y3.1).length cap18, .int .i64 (y3.2)])] (by kernel_rfl) (qT (qT (qT (qT (qB (qT (qL (qB (qT (qB (qT (qL (qB (qT (qT qZ))))))))))))))) (by kernel_rfl) ?_
           refine wH_done (by kernel_rfl) ?_
           refine eX_tail ?_
           refine wS_pure 1 [(17, .int .i64 (y3.2))] (by kernel_rfl) ?_
           refine wS_end (by rfl) ?_
           have hq : (some ((y3.1, y3.2)) : Option ((List (List (Int))) × Int)) = some _ := hm
           replace hq := someE hq
           subst hq
           exact eX_J (fun hst => ⟨y3.1, A18, cap18, fp18, y3.2, rfl, Fr.of hst (by kernel_rfl), F27, F28, F29, F30, F41, Rt5, K6, hB, hZ⟩)
          ·skip
           refine wS_bs (enc := encI) ([x11, x12] : List (Int)) [.int .i64 (x11), .int .i64 (x12)] (d := 88) (t := 32) (T := 2) (n := 2) (ps := [(0, .int .i64 (x11)), (1, .int .i64 (x12))]) (by kernel_rfl) el32 encI_ok (by rfl) (by omega) (by omega) (by kernel_rfl) (by rfl) ?_
           intro b8 w21 G16 F42 hc16
           have D38 : Dj fp8 [b8] := Dj.of F30.low (low1 G16)
           have D39 : Dj [b4] [b8] := Dj.of F32.low (low1 G16)
           have D40 : Dj fp14 [b8] := Dj.of F33.low (low1 G16)
           have D41 : Dj ([b5] ++ []) [b8] := Dj.of F34.low (low1 G16)
           replace F27 := F27.chg hc16 Dj.nil
           replace F28 := F28.chg hc16 Dj.nil
           replace F29 := F29.chg hc16 Dj.nil
           replace F30 := F30.chg hc16 Dj.nil
           replace F32 := F32.chg hc16 Dj.nil
           replace F33 := F33.chg hc16 Dj.nil
           replace F34 := F34.chg hc16 Dj.nil
           replace hB := hB.inS hc16 inNil
           have hSz := hS
           replace hS := hS.inS hc16 inNil
           have Gz3 := low1 (Nat.le_trans hSz.size G16)
           replace G16 := Nat.le_trans hZ G16
           replace G16 := low1 G16
           replace hZ := Nat.le_trans hZ hc16.size
           refine wS_end (by kernel_rfl) ?_
           refine eX_KH hS ?_
           refine wH_all [3, 13] (by rfl) (by kernel_rfl) (by simp) ⟨⟨by kernel_rfl, ?_⟩, ⟨by kernel_rfl, ?_⟩, trivial⟩
           ·skip
            obtain ⟨_, hk5, hm⟩ := bindE hm
            replace hk5 := apE hk5
            refine wS_appendHR (k := 1) (enc := encI) (ll := (([] : List (List (Int))) : List (List (Int)))) (ll2 := (l1 : List (List (Int)))) (d := 79) (t := 26) (T := 32) (A := (some ⟨b5, 0, none⟩)) (A2 := A1) (cap := 0) (cap2 := cap1) (by kernel_rfl) el26 (F34.hr encI_ok) F28 (fun y hy hz => (Dj.of L1 G12).symm y (List.mem_append_left _ hy) hz) hk5 ?_
            intro w22 fp19 A19 cap19 F43 hc17 hp5
            have K7 := F43.cap_le
            have F44 := F43.slr
            have Gm3 := low_ap (low_inl G12) hZ hp5
            have Rt6 : Rt w0.heap.size (fp0 ++ (fp1 ++ (fp2 ++ []))) (fp19 ++ ([] ++ fp1)) := Rt.app (Rt.low Gm3) (Rt.app (Rt.inr (Rt.low G12)) (Rt.mem (fun x hx => (List.mem_append_right _ (List.mem_append_left _ hx)))))
            have D42 : Dj fp8 fp19 := Dj.ap (Dj.inl D14) F30.low hp5
            have D43 : Dj [b4] fp19 := Dj.ap (Dj.inl D15) F32.low hp5
            have D44 : Dj fp14 fp19 := Dj.ap (Dj.inl D16) F33.low hp5
            have D45 : Dj [b8] fp19 := Dj.ap (Dj.inl (D41).symm) F42.low hp5
            have D46 : Dj [b4] (fp19 ++ ([] ++ fp1)) := Dj.app (Dj.ap (Dj.inl D15) F32.low hp5) (Dj.app (Dj.inr D15) (Dj.of L1 G10).symm)
            have D47 : Dj fp14 (fp19 ++ ([] ++ fp1)) := Dj.app (Dj.ap (Dj.inl D16) F33.low hp5) (Dj.app (Dj.inr D16) (Dj.of L1 G11).symm)
            have D48 : Dj [b8] (fp19 ++ ([] ++ fp1)) := Dj.app (Dj.ap (Dj.inl (D41).symm) F42.low hp5) (Dj.app (Dj.inr (D41).symm) (Dj.of L1 G16).symm)
            replace F27 := F27.chg hc17 (Dj.inl (Dj.of L0 G12))
            replace F28 := F28.chg hc17 (Dj.inl (Dj.of L1 G12))
            replace F29 := F29.chg hc17 (Dj.inl (Dj.of L2 G12))
            replace F30 := F30.chg hc17 (Dj.inl D14)
            replace F32 := F32.chg hc17 (Dj.inl D15)
            replace F33 := F33.chg hc17 (Dj.inl D16)
            replace F42 := F42.chg hc17 (Dj.inl (D41).symm)
            replace hB := hB.inS hc17 (memS_inl (inLow G12))
            have hSz := hS
            replace hS := hS.inS hc17 (inLow (low_inl Gz1))
            have Sn3 := sin_ap (Sg := []) (inLow (low_inl Gz1)) hSz.size hp5
            replace hZ := Nat.le_trans hZ hc17.size
            refine wS_end (by kernel_rfl) ?_
            refine eX_KH hS ?_
            refine wH_all [13] (by rfl) (by kernel_rfl) (by simp) ⟨⟨by kernel_rfl, ?_⟩, trivial⟩
            refine wS_row1 (k := 1) (enc := encI) (l := ([x11, x12] : List (Int))) (d := 89) (t := 26) (T := 32) (B := (some ⟨b8, 0, none⟩)) (c := 2) (by kernel_rfl) el26 F42 ?_
            intro b9 w23 G17 F45 hc18
            have D49 : Dj fp8 ([b9] ++ [b8]) := Dj.app (Dj.of F30.low (low1 G17)) D38
            have D50 : Dj [b4] ([b9] ++ [b8]) := Dj.app (Dj.of F32.low (low1 G17)) D39
            have D51 : Dj fp14 ([b9] ++ [b8]) := Dj.app (Dj.of F33.low (low1 G17)) D40
            have D52 : Dj (fp19 ++ ([] ++ fp1)) ([b9] ++ [b8]) := Dj.app (Dj.of F44.low (low1 G17)) (D48).symm
            replace F27 := F27.chg hc18 Dj.nil
            replace F28 := F28.chg hc18 Dj.nil
            replace F29 := F29.chg hc18 Dj.nil
            replace F30 := F30.chg hc18 Dj.nil
            replace F32 := F32.chg hc18 Dj.nil
            replace F33 := F33.chg hc18 Dj.nil
            replace F42 := F42.chg hc18 Dj.nil
            replace F44 := F44.chg hc18 Dj.nil
            replace F43 := F43.chg hc18 Dj.nil
            replace hB := hB.inS hc18 inNil
            have hSz := hS
            replace hS := hS.inS hc18 inNil
            replace G17 := Nat.le_trans hZ G17
            replace G17 := lowApp (low1 G17) G16
            replace hZ := Nat.le_trans hZ hc18.size
            replace F42 := (F42.sl encI_ok)
            refine wS_end (by kernel_rfl) ?_
            refine eX_KH hS ?_
            refine wH_all [14] (by rfl) (by kernel_rfl) (by simp) ⟨⟨by kernel_rfl, ?_⟩, trivial⟩
            obtain ⟨_, hk6, hm⟩ := bindE hm
            replace hk6 := apE hk6
            refine wS_appendHR (k := 1) (enc := encI) (ll := ((([] : List (List (Int)))) ++ l1 : List (List (Int)))) (ll2 := (([([x11, x12] : List (Int))] : List (List (Int))) : List (List (Int)))) (d := 90) (t := 26) (T := 32) (A := A19) (A2 := (some ⟨b9, 0, none⟩)) (cap := cap19) (cap2 := 1) (by kernel_rfl) el26 F43 (F45.slr encI_ok) (fun y hy hz => D52 y (List.mem_append_left _ hy) hz) hk6 ?_
            intro w24 fp20 A20 cap20 F46 hc19 hp6
            have K8 := F46.cap_le
            have F47 := F46.slr
            have Gm4 := low_ap Gm3 hZ hp6
            have Rt7 : Rt w0.heap.size (fp0 ++ (fp1 ++ (fp2 ++ []))) (fp20 ++ (([] ++ fp1) ++ ([b9] ++ [b8]))) := Rt.app (Rt.low Gm4) (Rt.app (Rt.inr Rt6) (Rt.low G17))
            have D53 : Dj fp8 fp20 := Dj.ap D42 F30.low hp6
            have D54 : Dj [b4] fp20 := Dj.ap D43 F32.low hp6
            have D55 : Dj fp14 fp20 := Dj.ap D44 F33.low hp6
            have D56 : Dj [b8] fp20 := Dj.ap D45 F42.low hp6
            have D57 : Dj ([b9] ++ [b8]) fp20 := Dj.ap (Dj.inl (D52).symm) F45.low hp6
            have D58 : Dj [b4] (fp20 ++ (([] ++ fp1) ++ ([b9] ++ [b8]))) := Dj.app (Dj.ap (Dj.inl D46) F32.low hp6) (Dj.app (Dj.inr D46) D50)
            have D59 : Dj fp14 (fp20 ++ (([] ++ fp1) ++ ([b9] ++ [b8]))) := Dj.app (Dj.ap (Dj.inl D47) F33.low hp6) (Dj.app (Dj.inr D47) D51)
            replace F27 := F27.chg hc19 (Dj.of L0 Gm3)
            replace F28 := F28.chg hc19 (Dj.of L1 Gm3)
            replace F29 := F29.chg hc19 (Dj.of L2 Gm3)
            replace F30 := F30.chg hc19 D42
            replace F32 := F32.chg hc19 D43
            replace F33 := F33.chg hc19 D44
            replace F42 := F42.chg hc19 D45
            replace F45 := F45.chg hc19 (Dj.inl (D52).symm)
            replace hB := hB.inS hc19 (inLow Gm3)
            have hSz := hS
            replace hS := hS.inS hc19 Sn3
            have Sn4 := sin_ap (Sg := []) Sn3 hSz.size hp6
            replace hZ := Nat.le_trans hZ hc19.size
            refine wS_end (by kernel_rfl) ?_
            refine eX_KH hS ?_
            refine wH_all [16] (by rfl) (by kernel_rfl) (by simp) ⟨⟨by kernel_rfl, ?_⟩, trivial⟩
            obtain ⟨y4, hy4, hm⟩ := bindE hm
            refine wS_calls (d := 92) (f := 33) (vs := [.slice A0 (l0).length cap0, .slice A20 (((([] : List (List (Int)))) ++ l1) ++ (([([x11, x12] : List (Int))] : List (List (Int))))).length cap20, .slice A14 (l8 ++ (([wr ((((l0).length : Int)) + (((l1).length : Int)))] : List (Int)))).length cap14]) (by kernel_rfl) ent33 (hR hy4 F27 F47 K8 (F33.sl encI_ok)) ?_
            rintro _ w25 ⟨A21, cap21, fp21, rfl, F48, G18, K9, hc20⟩
            have Rt8 : Rt w0.heap.size (fp0 ++ (fp1 ++ (fp2 ++ []))) fp21 := Rt.of G18 hZ (Rt.app (Rt.mem (fun x hx => (List.mem_append_left _ hx))) (Rt.app Rt7 (Rt.app (Rt.low G11) Rt.nil)))
            have D60 : Dj [b4] fp21 := Rt.dj G18 F32.low (Dj.app (Dj.of L0 G10).symm (Dj.app D58 (Dj.app D13 Dj.nil)))
            replace F27 := F27.chg hc20 Dj.nil
            replace F28 := F28.chg hc20 Dj.nil
            replace F29 := F29.chg hc20 Dj.nil
            replace F30 := F30.chg hc20 Dj.nil
            replace F32 := F32.chg hc20 Dj.nil
            replace F33 := F33.chg hc20 Dj.nil
            replace F42 := F42.chg hc20 Dj.nil
            replace F45 := F45.chg hc20 Dj.nil
            replace F47 := F47.chg hc20 Dj.nil
            replace F46 := F46.chg hc20 Dj.nil
            replace hB := hB.inS hc20 inNil
            have hSz := hS
            replace hS := hS.inS hc20 inNil
            replace hZ := Nat.le_trans hZ hc20.size
            refine ⟨.tuple #[.slice A21 (y4.1).length cap21, .int .i64 (y4.2)], rfl, ?_⟩
            refine wS_end (by kernel_rfl) ?_
            refine eX_KH hS ?_
            refine wH_take [17, 18, 19, 20] [20, 19, 18, 17, 16, 14, 13, 3, 12, 1, 15, 11, 10, 9, 8, 7, 6, 5, 4, 2, 0] [(16, .slice A21 (y4.1).length cap21), (94, .int .i64 (y4.2)), (93, .slice A21 (y4.1).length cap21), (75, .tuple #[.slice A21 (y4.1).length cap21, .int .i64 (y4.2)])] (by kernel_rfl) (qT (qT (qT (qT (qB (qT (qL (qB (qT (qB (qT (qL (qB (qT (qT qZ))))))))))))))) (by kernel_rfl) ?_
            refine wH_done (by kernel_rfl) ?_
            refine eX_tail ?_
            refine wS_pure 1 [(17, .int .i64 (y4.2))] (by kernel_rfl) ?_
            refine wS_end (by rfl) ?_
            have hq : (some ((y4.1, y4.2)) : Option ((List (List (Int))) × Int)) = some _ := hm
            replace hq := someE hq
            subst hq
            exact eX_J (fun hst => ⟨y4.1, A21, cap21, fp21, y4.2, rfl, Fr.of hst (by kernel_rfl), F27, F28, F29, F30, F48, Rt8, K9, hB, hZ⟩)
           ·skip
            refine wS_row1 (k := 1) (enc := encI) (l := ([x11, x12] : List (Int))) (d := 89) (t := 26) (T := 32) (B := (some ⟨b8, 0, none⟩)) (c := 2) (by kernel_rfl) el26 F42 ?_
            intro b10 w26 G19 F49 hc21
            have D61 : Dj fp8 ([b10] ++ [b8]) := Dj.app (Dj.of F30.low (low1 G19)) D38
            have D62 : Dj [b4] ([b10] ++ [b8]) := Dj.app (Dj.of F32.low (low1 G19)) D39
            have D63 : Dj fp14 ([b10] ++ [b8]) := Dj.app (Dj.of F33.low (low1 G19)) D40
            have D64 : Dj ([b5] ++ []) ([b10] ++ [b8]) := Dj.app (Dj.of F34.low (low1 G19)) D41
            replace F27 := F27.chg hc21 Dj.nil
            replace F28 := F28.chg hc21 Dj.nil
            replace F29 := F29.chg hc21 Dj.nil
            replace F30 := F30.chg hc21 Dj.nil
            replace F32 := F32.chg hc21 Dj.nil
            replace F33 := F33.chg hc21 Dj.nil
            replace F34 := F34.chg hc21 Dj.nil
            replace F42 := F42.chg hc21 Dj.nil
            replace hB := hB.inS hc21 inNil
            have hSz := hS
            replace hS := hS.inS hc21 inNil
            replace G19 := Nat.le_trans hZ G19
            replace G19 := lowApp (low1 G19) G16
            replace hZ := Nat.le_trans hZ hc21.size
            replace F42 := (F42.sl encI_ok)
            refine wS_end (by kernel_rfl) ?_
            refine eX_KH hS ?_
            refine wH_all [3] (by rfl) (by kernel_rfl) (by simp) ⟨⟨by kernel_rfl, ?_⟩, trivial⟩
            obtain ⟨_, hk7, hm⟩ := bindE hm
            replace hk7 := apE hk7
            refine wS_appendHR (k := 1) (enc := encI) (ll := (([] : List (List (Int))) : List (List (Int)))) (ll2 := (l1 : List (List (Int)))) (d := 79) (t := 26) (T := 32) (A := (some ⟨b5, 0, none⟩)) (A2 := A1) (cap := 0) (cap2 := cap1) (by kernel_rfl) el26 (F34.hr encI_ok) F28 (fun y hy hz => (Dj.of L1 G12).symm y (List.mem_append_left _ hy) hz) hk7 ?_
            intro w27 fp22 A22 cap22 F50 hc22 hp7
            have K10 := F50.cap_le
            have F51 := F50.slr
            have Gm5 := low_ap (low_inl G12) hZ hp7
            have Rt9 : Rt w0.heap.size (fp0 ++ (fp1 ++ (fp2 ++ []))) (fp22 ++ ([] ++ fp1)) := Rt.app (Rt.low Gm5) (Rt.app (Rt.inr (Rt.low G12)) (Rt.mem (fun x hx => (List.mem_append_right _ (List.mem_append_left _ hx)))))
            have D65 : Dj fp8 fp22 := Dj.ap (Dj.inl D14) F30.low hp7
            have D66 : Dj [b4] fp22 := Dj.ap (Dj.inl D15) F32.low hp7
            have D67 : Dj fp14 fp22 := Dj.ap (Dj.inl D16) F33.low hp7
            have D68 : Dj [b8] fp22 := Dj.ap (Dj.inl (D41).symm) F42.low hp7
            have D69 : Dj ([b10] ++ [b8]) fp22 := Dj.ap (Dj.inl (D64).symm) F49.low hp7
            have D70 : Dj [b4] (fp22 ++ ([] ++ fp1)) := Dj.app (Dj.ap (Dj.inl D15) F32.low hp7) (Dj.app (Dj.inr D15) (Dj.of L1 G10).symm)
            have D71 : Dj fp14 (fp22 ++ ([] ++ fp1)) := Dj.app (Dj.ap (Dj.inl D16) F33.low hp7) (Dj.app (Dj.inr D16) (Dj.of L1 G11).symm)
            have D72 : Dj [b8] (fp22 ++ ([] ++ fp1)) := Dj.app (Dj.ap (Dj.inl (D41).symm) F42.low hp7) (Dj.app (Dj.inr (D41).symm) (Dj.of L1 G16).symm)
            have D73 : Dj ([b10] ++ [b8]) (fp22 ++ ([] ++ fp1)) := Dj.app (Dj.ap (Dj.inl (D64).symm) F49.low hp7) (Dj.app (Dj.inr (D64).symm) (Dj.of L1 G19).symm)
            replace F27 := F27.chg hc22 (Dj.inl (Dj.of L0 G12))
            replace F28 := F28.chg hc22 (Dj.inl (Dj.of L1 G12))
            replace F29 := F29.chg hc22 (Dj.inl (Dj.of L2 G12))
            replace F30 := F30.chg hc22 (Dj.inl D14)
            replace F32 := F32.chg hc22 (Dj.inl D15)
            replace F33 := F33.chg hc22 (Dj.inl D16)
            replace F42 := F42.chg hc22 (Dj.inl (D41).symm)
            replace F49 := F49.chg hc22 (Dj.inl (D64).symm)
            replace hB := hB.inS hc22 (memS_inl (inLow G12))
            have hSz := hS
            replace hS := hS.inS hc22 (inLow (low_inl Gz1))
            have Sn5 := sin_ap (Sg := []) (inLow (low_inl Gz1)) hSz.size hp7
            replace hZ := Nat.le_trans hZ hc22.size
            refine wS_end (by kernel_rfl) ?_
            refine eX_KH hS ?_
            refine wH_all [14] (by rfl) (by kernel_rfl) (by simp) ⟨⟨by kernel_rfl, ?_⟩, trivial⟩
            obtain ⟨_, hk8, hm⟩ := bindE hm
            replace hk8 := apE hk8
            refine wS_appendHR (k := 1) (enc := encI) (ll := ((([] : List (List (Int)))) ++ l1 : List (List (Int)))) (ll2 := (([([x11, x12] : List (Int))] : List (List (Int))) : List (List (Int)))) (d := 90) (t := 26) (T := 32) (A := A22) (A2 := (some ⟨b10, 0, none⟩)) (cap := cap22) (cap2 := 1) (by kernel_rfl) el26 F50 (F49.slr encI_ok) (fun y hy hz => (D73).symm y (List.mem_append_left _ hy) hz) hk8 ?_
            intro w28 fp23 A23 cap23 F52 hc23 hp8
            have K11 := F52.cap_le
            have F53 := F52.slr
            have Gm6 := low_ap Gm5 hZ hp8
            have Rt10 : Rt w0.heap.size (fp0 ++ (fp1 ++ (fp2 ++ []))) (fp23 ++ (([] ++ fp1) ++ ([b10] ++ [b8]))) := Rt.app (Rt.low Gm6) (Rt.app (Rt.inr Rt9) (Rt.low G19))
            have D74 : Dj fp8 fp23 := Dj.ap D65 F30.low hp8
            have D75 : Dj [b4] fp23 := Dj.ap D66 F32.low hp8
            have D76 : Dj fp14 fp23 := Dj.ap D67 F33.low hp8
            have D77 : Dj [b8] fp23 := Dj.ap D68 F42.low hp8
            have D78 : Dj ([b10] ++ [b8]) fp23 := Dj.ap D69 F49.low hp8
            have D79 : Dj [b4] (fp23 ++ (([] ++ fp1) ++ ([b10] ++ [b8]))) := Dj.app (Dj.ap (Dj.inl D70) F32.low hp8) (Dj.app (Dj.inr D70) D62)
            have D80 : Dj fp14 (fp23 ++ (([] ++ fp1) ++ ([b10] ++ [b8]))) := Dj.app (Dj.ap (Dj.inl D71) F33.low hp8) (Dj.app (Dj.inr D71) D63)
            replace F27 := F27.chg hc23 (Dj.of L0 Gm5)
            replace F28 := F28.chg hc23 (Dj.of L1 Gm5)
            replace F29 := F29.chg hc23 (Dj.of L2 Gm5)
            replace F30 := F30.chg hc23 D65
            replace F32 := F32.chg hc23 D66
            replace F33 := F33.chg hc23 D67
            replace F42 := F42.chg hc23 D68
            replace F49 := F49.chg hc23 D69
            replace hB := hB.inS hc23 (inLow Gm5)
            have hSz := hS
            replace hS := hS.inS hc23 Sn5
            have Sn6 := sin_ap (Sg := []) Sn5 hSz.size hp8
            replace hZ := Nat.le_trans hZ hc23.size
            refine wS_end (by kernel_rfl) ?_
            refine eX_KH hS ?_
            refine wH_all [16] (by rfl) (by kernel_rfl) (by simp) ⟨⟨by kernel_rfl, ?_⟩, trivial⟩
            obtain ⟨y5, hy5, hm⟩ := bindE hm
            refine wS_calls (d := 92) (f := 33) (vs := [.slice A0 (l0).length cap0, .slice A23 (((([] : List (List (Int)))) ++ l1) ++ (([([x11, x12] : List (Int))] : List (List (Int))))).length cap23, .slice A14 (l8 ++ (([wr ((((l0).length : Int)) + (((l1).length : Int)))] : List (Int)))).length cap14]) (by kernel_rfl) ent33 (hR hy5 F27 F53 K11 (F33.sl encI_ok)) ?_
            rintro _ w29 ⟨A24, cap24, fp24, rfl, F54, G20, K12, hc24⟩
            have Rt11 : Rt w0.heap.size (fp0 ++ (fp1 ++ (fp2 ++ []))) fp24 := Rt.of G20 hZ (Rt.app (Rt.mem (fun x hx => (List.mem_append_left _ hx))) (Rt.app Rt10 (Rt.app (Rt.low G11) Rt.nil)))
            have D81 : Dj [b4] fp24 := Rt.dj G20 F32.low (Dj.app (Dj.of L0 G10).symm (Dj.app D79 (Dj.app D13 Dj.nil)))
            replace F27 := F27.chg hc24 Dj.nil
            replace F28 := F28.chg hc24 Dj.nil
            replace F29 := F29.chg hc24 Dj.nil
            replace F30 := F30.chg hc24 Dj.nil
            replace F32 := F32.chg hc24 Dj.nil
            replace F33 := F33.chg hc24 Dj.nil
            replace F42 := F42.chg hc24 Dj.nil
            replace F49 := F49.chg hc24 Dj.nil
            replace F53 := F53.chg hc24 Dj.nil
            replace F52 := F52.chg hc24 Dj.nil
            replace hB := hB.inS hc24 inNil
            have hSz := hS
            replace hS := hS.inS hc24 inNil
            replace hZ := Nat.le_trans hZ hc24.size
            refine ⟨.tuple #[.slice A24 (y5.1).length cap24, .int .i64 (y5.2)], rfl, ?_⟩
            refine wS_end (by kernel_rfl) ?_
            refine eX_KH hS ?_
            refine wH_take [17, 18, 19, 20] [20, 19, 18, 17, 16, 14, 3, 13, 12, 1, 15, 11, 10, 9, 8, 7, 6, 5, 4, 2, 0] [(16, .slice A24 (y5.1).length cap24), (94, .int .i64 (y5.2)), (93, .slice A24 (y5.1).length cap24), (75, .tuple #[.slice A24 (y5.1).length cap24, .int .i64 (y5.2)])] (by kernel_rfl) (qT (qT (qT (qT (qB (qT (qL (qB (qT (qB (qT (qL (qB (qT (qT qZ))))))))))))))) (by kernel_rfl) ?_
            refine wH_done (by kernel_rfl) ?_
            refine eX_tail ?_
            refine wS_pure 1 [(17, .int .i64 (y5.2))] (by kernel_rfl) ?_
            refine wS_end (by rfl) ?_
            have hq : (some ((y5.1, y5.2)) : Option ((List (List (Int))) × Int)) = some _ := hm
            replace hq := someE hq
            subst hq
            exact eX_J (fun hst => ⟨y5.1, A24, cap24, fp24, y5.2, rfl, Fr.of hst (by kernel_rfl), F27, F28, F29, F30, F54, Rt11, K12, hB, hZ⟩)
         ·skip
          refine wS_bs (enc := encI) ([x11, x12] : List (Int)) [.int .i64 (x11), .int .i64 (x12)] (d := 88) (t := 32) (T := 2) (n := 2) (ps := [(0, .int .i64 (x11)), (1, .int .i64 (x12))]) (by kernel_rfl) el32 encI_ok (by rfl) (by omega) (by omega) (by kernel_rfl) (by rfl) ?_
          intro b11 w30 G21 F55 hc25
          have D82 : Dj fp8 [b11] := Dj.of F30.low (low1 G21)
          have D83 : Dj [b4] [b11] := Dj.of F32.low (low1 G21)
          have D84 : Dj fp14 [b11] := Dj.of F33.low (low1 G21)
          replace F27 := F27.chg hc25 Dj.nil
          replace F28 := F28.chg hc25 Dj.nil
          replace F29 := F29.chg hc25 Dj.nil
          replace F30 := F30.chg hc25 Dj.nil
          replace F32 := F32.chg hc25 Dj.nil
          replace F33 := F33.chg hc25 Dj.nil
          replace hB := hB.inS hc25 inNil
          have hSz := hS
          replace hS := hS.inS hc25 inNil
          have Gz4 := low1 (Nat.le_trans hSz.size G21)
          replace G21 := Nat.le_trans hZ G21
          replace G21 := low1 G21
          replace hZ := Nat.le_trans hZ hc25.size
          refine wS_end (by kernel_rfl) ?_
          refine eX_KH hS ?_
          refine wH_all [1, 13] (by rfl) (by kernel_rfl) (by simp) ⟨⟨by kernel_rfl, ?_⟩, ⟨by kernel_rfl, ?_⟩, trivial⟩
          ·skip
           refine wS_rows0 (k := 1) (enc := encI) (d := 77) (t := 26) (T := 32) (T2 := 2) (by kernel_rfl) el26 ?_
           intro b12 w31 G22 F56 hc26
           have D85 : Dj fp8 ([b12] ++ []) := Dj.of F30.low (lowApp (low1 G22) lowNil)
           have D86 : Dj [b4] ([b12] ++ []) := Dj.of F32.low (lowApp (low1 G22) lowNil)
           have D87 : Dj fp14 ([b12] ++ []) := Dj.of F33.low (lowApp (low1 G22) lowNil)
           have D88 : Dj [b11] ([b12] ++ []) := Dj.of F55.low (lowApp (low1 G22) lowNil)
           replace F27 := F27.chg hc26 Dj.nil
           replace F28 := F28.chg hc26 Dj.nil
           replace F29 := F29.chg hc26 Dj.nil
           replace F30 := F30.chg hc26 Dj.nil
           replace F32 := F32.chg hc26 Dj.nil
           replace F33 := F33.chg hc26 Dj.nil
           replace F55 := F55.chg hc26 Dj.nil
           replace hB := hB.inS hc26 inNil
           have hSz := hS
           replace hS := hS.inS hc26 inNil
           have Gz5 := low1 (Nat.le_trans hSz.size G22)
           replace G22 := Nat.le_trans hZ G22
           replace G22 := low1 G22
           replace hZ := Nat.le_trans hZ hc26.size
           replace G22 := lowApp G22 lowNil
           replace Gz5 := lowApp Gz5 lowNil
           refine wS_end (by kernel_rfl) ?_
           refine eX_KH hS ?_
           refine wH_all [3, 13] (by rfl) (by kernel_rfl) (by simp) ⟨⟨by kernel_rfl, ?_⟩, ⟨by kernel_rfl, ?_⟩, trivial⟩
           ·skip
            obtain ⟨_, hk9, hm⟩ := bindE hm
            replace hk9 := apE hk9
            refine wS_appendHR (k := 1) (enc := encI) (ll := (([] : List (List (Int))) : List (List (Int)))) (ll2 := (l1 : List (List (Int)))) (d := 79) (t := 26) (T := 32) (A := (some ⟨b12, 0, none⟩)) (A2 := A1) (cap := 0) (cap2 := cap1) (by kernel_rfl) el26 (F56.hr encI_ok) F28 (fun y hy hz => (Dj.of L1 G22).symm y (List.mem_append_left _ hy) hz) hk9 ?_
            intro w32 fp25 A25 cap25 F57 hc27 hp9
            have K13 := F57.cap_le
            have F58 := F57.slr
            have Gm7 := low_ap (low_inl G22) hZ hp9
            have Rt12 : Rt w0.heap.size (fp0 ++ (fp1 ++ (fp2 ++ []))) (fp25 ++ ([] ++ fp1)) := Rt.app (Rt.low Gm7) (Rt.app (Rt.inr (Rt.low G22)) (Rt.mem (fun x hx => (List.mem_append_right _ (List.mem_append_left _ hx)))))
            have D89 : Dj fp8 fp25 := Dj.ap (Dj.inl D85) F30.low hp9
            have D90 : Dj [b4] fp25 := Dj.ap (Dj.inl D86) F32.low hp9
            have D91 : Dj fp14 fp25 := Dj.ap (Dj.inl D87) F33.low hp9
            have D92 : Dj [b11] fp25 := Dj.ap (Dj.inl D88) F55.low hp9
            have D93 : Dj [b4] (fp25 ++ ([] ++ fp1)) := Dj.app (Dj.ap (Dj.inl D86) F32.low hp9) (Dj.app (Dj.inr D86) (Dj.of L1 G10).symm)
            have D94 : Dj fp14 (fp25 ++ ([] ++ fp1)) := Dj.app (Dj.ap (Dj.inl D87) F33.low hp9) (Dj.app (Dj.inr D87) (Dj.of L1 G11).symm)
            have D95 : Dj [b11] (fp25 ++ ([] ++ fp1)) := Dj.app (Dj.ap (Dj.inl D88) F55.low hp9) (Dj.app (Dj.inr D88) (Dj.of L1 G21).symm)
            replace F27 := F27.chg hc27 (Dj.inl (Dj.of L0 G22))
            replace F28 := F28.chg hc27 (Dj.inl (Dj.of L1 G22))
            replace F29 := F29.chg hc27 (Dj.inl (Dj.of L2 G22))
            replace F30 := F30.chg hc27 (Dj.inl D85)
            replace F32 := F32.chg hc27 (Dj.inl D86)
            replace F33 := F33.chg hc27 (Dj.inl D87)
            replace F55 := F55.chg hc27 (Dj.inl D88)
            replace hB := hB.inS hc27 (memS_inl (inLow G22))
            have hSz := hS
            replace hS := hS.inS hc27 (inLow (low_inl Gz5))
            have Sn7 := sin_ap (Sg := []) (inLow (low_inl Gz5)) hSz.size hp9
            replace hZ := Nat.le_trans hZ hc27.size
            refine wS_end (by kernel_rfl) ?_
            refine eX_KH hS ?_
            refine wH_all [13] (by rfl) (by kernel_rfl) (by simp) ⟨⟨by kernel_rfl, ?_⟩, trivial⟩
            refine wS_row1 (k := 1) (enc := encI) (l := ([x11, x12] : List (Int))) (d := 89) (t := 26) (T := 32) (B := (some ⟨b11, 0, none⟩)) (c := 2) (by kernel_rfl) el26 F55 ?_
            intro b13 w33 G23 F59 hc28
            have D96 : Dj fp8 ([b13] ++ [b11]) := Dj.app (Dj.of F30.low (low1 G23)) D82
            have D97 : Dj [b4] ([b13] ++ [b11]) := Dj.app (Dj.of F32.low (low1 G23)) D83
            have D98 : Dj fp14 ([b13] ++ [b11]) := Dj.app (Dj.of F33.low (low1 G23)) D84
            have D99 : Dj (fp25 ++ ([] ++ fp1)) ([b13] ++ [b11]) := Dj.app (Dj.of F58.low (low1 G23)) (D95).symm
            replace F27 := F27.chg hc28 Dj.nil
            replace F28 := F28.chg hc28 Dj.nil
            replace F29 := F29.chg hc28 Dj.nil
            replace F30 := F30.chg hc28 Dj.nil
            replace F32 := F32.chg hc28 Dj.nil
            replace F33 := F33.chg hc28 Dj.nil
            replace F55 := F55.chg hc28 Dj.nil
            replace F58 := F58.chg hc28 Dj.nil
            replace F57 := F57.chg hc28 Dj.nil
            replace hB := hB.inS hc28 inNil
            have hSz := hS
            replace hS := hS.inS hc28 inNil
            replace G23 := Nat.le_trans hZ G23
            replace G23 := lowApp (low1 G23) G21
            replace hZ := Nat.le_trans hZ hc28.size
            replace F55 := (F55.sl encI_ok)
            refine wS_end (by kernel_rfl) ?_
            refine eX_KH hS ?_
            refine wH_all [14] (by rfl) (by kernel_rfl) (by simp) ⟨⟨by kernel_rfl, ?_⟩, trivial⟩
            obtain ⟨_, hk10, hm⟩ := bindE hm
            replace hk10 := apE hk10
            refine wS_appendHR (k := 1) (enc := encI) (ll := ((([] : List (List (Int)))) ++ l1 : List (List (Int)))) (ll2 := (([([x11, x12] : List (Int))] : List (List (Int))) : List (List (Int)))) (d := 90) (t := 26) (T := 32) (A := A25) (A2 := (some ⟨b13, 0, none⟩)) (cap := cap25) (cap2 := 1) (by kernel_rfl) el26 F57 (F59.slr encI_ok) (fun y hy hz => D99 y (List.mem_append_left _ hy) hz) hk10 ?_
            intro w34 fp26 A26 cap26 F60 hc29 hp10
            have K14 := F60.cap_le
            have F61 := F60.slr
            have Gm8 := low_ap Gm7 hZ hp10
            have Rt13 : Rt w0.heap.size (fp0 ++ (fp1 ++ (fp2 ++ []))) (fp26 ++ (([] ++ fp1) ++ ([b13] ++ [b11]))) := Rt.app (Rt.low Gm8) (Rt.app (Rt.inr Rt12) (Rt.low G23))
            have D100 : Dj fp8 fp26 := Dj.ap D89 F30.low hp10
            have D101 : Dj [b4] fp26 := Dj.ap D90 F32.low hp10
            have D102 : Dj fp14 fp26 := Dj.ap D91 F33.low hp10
            have D103 : Dj [b11] fp26 := Dj.ap D92 F55.low hp10
            have D104 : Dj ([b13] ++ [b11]) fp26 := Dj.ap (Dj.inl (D99).symm) F59.low hp10
            have D105 : Dj [b4] (fp26 ++ (([] ++ fp1) ++ ([b13] ++ [b11]))) := Dj.app (Dj.ap (Dj.inl D93) F32.low hp10) (Dj.app (Dj.inr D93) D97)
            have D106 : Dj fp14 (fp26 ++ (([] ++ fp1) ++ ([b13] ++ [b11]))) := Dj.app (Dj.ap (Dj.inl D94) F33.low hp10) (Dj.app (Dj.inr D94) D98)
            replace F27 := F27.chg hc29 (Dj.of L0 Gm7)
            replace F28 := F28.chg hc29 (Dj.of L1 Gm7)
            replace F29 := F29.chg hc29 (Dj.of L2 Gm7)
            replace F30 := F30.chg hc29 D89
            replace F32 := F32.chg hc29 D90
            replace F33 := F33.chg hc29 D91
            replace F55 := F55.chg hc29 D92
            replace F59 := F59.chg hc29 (Dj.inl (D99).symm)
            replace hB := hB.inS hc29 (inLow Gm7)
            have hSz := hS
            replace hS := hS.inS hc29 Sn7
            have Sn8 := sin_ap (Sg := []) Sn7 hSz.size hp10
            replace hZ := Nat.le_trans hZ hc29.size
            refine wS_end (by kernel_rfl) ?_
            refine eX_KH hS ?_
            refine wH_all [16] (by rfl) (by kernel_rfl) (by simp) ⟨⟨by kernel_rfl, ?_⟩, trivial⟩
            obtain ⟨y6, hy6, hm⟩ := bindE hm
            refine wS_calls (d := 92) (f := 33) (vs := [.slice A0 (l0).length cap0, .slice A26 (((([] : List (List (Int)))) ++ l1) ++ (([([x11, x12] : List (Int))] : List (List (Int))))).length cap26, .slice A14 (l8 ++ (([wr ((((l0).length : Int)) + (((l1).length : Int)))] : List (Int)))).length cap14]) (by kernel_rfl) ent33 (hR hy6 F27 F61 K14 (F33.sl encI_ok)) ?_
            rintro _ w35 ⟨A27, cap27, fp27, rfl, F62, G24, K15, hc30⟩
            have Rt14 : Rt w0.heap.size (fp0 ++ (fp1 ++ (fp2 ++ []))) fp27 := Rt.of G24 hZ (Rt.app (Rt.mem (fun x hx => (List.mem_append_left _ hx))) (Rt.app Rt13 (Rt.app (Rt.low G11) Rt.nil)))
            have D107 : Dj [b4] fp27 := Rt.dj G24 F32.low (Dj.app (Dj.of L0 G10).symm (Dj.app D105 (Dj.app D13 Dj.nil)))
            replace F27 := F27.chg hc30 Dj.nil
            replace F28 := F28.chg hc30 Dj.nil
            replace F29 := F29.chg hc30 Dj.nil
            replace F30 := F30.chg hc30 Dj.nil
            replace F32 := F32.chg hc30 Dj.nil
            replace F33 := F33.chg hc30 Dj.nil
            replace F55 := F55.chg hc30 Dj.nil
            replace F59 := F59.chg hc30 Dj.nil
            replace F61 := F61.chg hc30 Dj.nil
            replace F60 := F60.chg hc30 Dj.nil
            replace hB := hB.inS hc30 inNil
            have hSz := hS
            replace hS := hS.inS hc30 inNil
            replace hZ := Nat.le_trans hZ hc30.size
            refine ⟨.tuple #[.slice A27 (y6.1).length cap27, .int .i64 (y6.2)], rfl, ?_⟩
            refine wS_end (by kernel_rfl) ?_
            refine eX_KH hS ?_
            refine wH_take [17, 18, 19, 20] [20, 19, 18, 17, 16, 14, 13, 3, 1, 12, 15, 11, 10, 9, 8, 7, 6, 5, 4, 2, 0] [(16, .slice A27 (y6.1).length cap27), (94, .int .i64 (y6.2)), (93, .slice A27 (y6.1).length cap27), (75, .tuple #[.slice A27 (y6.1).length cap27, .int .i64 (y6.2)])] (by kernel_rfl) (qT (qT (qT (qT (qB (qT (qL (qB (qT (qB (qT (qL (qB (qT (qT qZ))))))))))))))) (by kernel_rfl) ?_
            refine wH_done (by kernel_rfl) ?_
            refine eX_tail ?_
            refine wS_pure 1 [(17, .int .i64 (y6.2))] (by kernel_rfl) ?_
            refine wS_end (by rfl) ?_
            have hq : (some ((y6.1, y6.2)) : Option ((List (List (Int))) × Int)) = some _ := hm
            replace hq := someE hq
            subst hq
            exact eX_J (fun hst => ⟨y6.1, A27, cap27, fp27, y6.2, rfl, Fr.of hst (by kernel_rfl), F27, F28, F29, F30, F62, Rt14, K15, hB, hZ⟩)
           ·skip
            refine wS_row1 (k := 1) (enc := encI) (l := ([x11, x12] : List (Int))) (d := 89) (t := 26) (T := 32) (B := (some ⟨b11, 0, none⟩)) (c := 2) (by kernel_rfl) el26 F55 ?_
            intro b14 w36 G25 F63 hc31
            have D108 : Dj fp8 ([b14] ++ [b11]) := Dj.app (Dj.of F30.low (low1 G25)) D82
            have D109 : Dj [b4] ([b14] ++ [b11]) := Dj.app (Dj.of F32.low (low1 G25)) D83
            have D110 : Dj fp14 ([b14] ++ [b11]) := Dj.app (Dj.of F33.low (low1 G25)) D84
            have D111 : Dj ([b12] ++ []) ([b14] ++ [b11]) := Dj.app (Dj.of F56.low (low1 G25)) (D88).symm
            replace F27 := F27.chg hc31 Dj.nil
            replace F28 := F28.chg hc31 Dj.nil
            replace F29 := F29.chg hc31 Dj.nil
            replace F30 := F30.chg hc31 Dj.nil
            replace F32 := F32.chg hc31 Dj.nil
            replace F33 := F33.chg hc31 Dj.nil
            replace F55 := F55.chg hc31 Dj.nil
            replace F56 := F56.chg hc31 Dj.nil
            replace hB := hB.inS hc31 inNil
            have hSz := hS
            replace hS := hS.inS hc31 inNil
            replace G25 := Nat.le_trans hZ G25
            replace G25 := lowApp (low1 G25) G21
            replace hZ := Nat.le_trans hZ hc31.size
            replace F55 := (F55.sl encI_ok)
            refine wS_end (by kernel_rfl) ?_
            refine eX_KH hS ?_
            refine wH_all [3] (by rfl) (by kernel_rfl) (by simp) ⟨⟨by kernel_rfl, ?_⟩, trivial⟩
            obtain ⟨_, hk11, hm⟩ := bindE hm
            replace hk11 := apE hk11
            refine wS_appendHR (k := 1) (enc := encI) (ll := (([] : List (List (Int))) : List (List (Int)))) (ll2 := (l1 : List (List (Int)))) (d := 79) (t := 26) (T := 32) (A := (some ⟨b12, 0, none⟩)) (A2 := A1) (cap := 0) (cap2 := cap1) (by kernel_rfl) el26 (F56.hr encI_ok) F28 (fun y hy hz => (Dj.of L1 G22).symm y (List.mem_append_left _ hy) hz) hk11 ?_
            intro w37 fp28 A28 cap28 F64 hc32 hp11
            have K16 := F64.cap_le
            have F65 := F64.slr
            have Gm9 := low_ap (low_inl G22) hZ hp11
            have Rt15 : Rt w0.heap.size (fp0 ++ (fp1 ++ (fp2 ++ []))) (fp28 ++ ([] ++ fp1)) := Rt.app (Rt.low Gm9) (Rt.app (Rt.inr (Rt.low G22)) (Rt.mem (fun x hx => (List.mem_append_right _ (List.mem_append_left _ hx)))))
            have D112 : Dj fp8 fp28 := Dj.ap (Dj.inl D85) F30.low hp11
            have D113 : Dj [b4] fp28 := Dj.ap (Dj.inl D86) F32.low hp11
            have D114 : Dj fp14 fp28 := Dj.ap (Dj.inl D87) F33.low hp11
            have D115 : Dj [b11] fp28 := Dj.ap (Dj.inl D88) F55.low hp11
            have D116 : Dj ([b14] ++ [b11]) fp28 := Dj.ap (Dj.inl (D111).symm) F63.low hp11
            have D117 : Dj [b4] (fp28 ++ ([] ++ fp1)) := Dj.app (Dj.ap (Dj.inl D86) F32.low hp11) (Dj.app (Dj.inr D86) (Dj.of L1 G10).symm)
            have D118 : Dj fp14 (fp28 ++ ([] ++ fp1)) := Dj.app (Dj.ap (Dj.inl D87) F33.low hp11) (Dj.app (Dj.inr D87) (Dj.of L1 G11).symm)
            have D119 : Dj [b11] (fp28 ++ ([] ++ fp1)) := Dj.app (Dj.ap (Dj.inl D88) F55.low hp11) (Dj.app (Dj.inr D88) (Dj.of L1 G21).symm)
            have D120 : Dj ([b14] ++ [b11]) (fp28 ++ ([] ++ fp1)) := Dj.app (Dj.ap (Dj.inl (D111).symm) F63.low hp11) (Dj.app (Dj.inr (D111).symm) (Dj.of L1 G25).symm)
            replace F27 := F27.chg hc32 (Dj.inl (Dj.of L0 G22))
            replace F28 := F28.chg hc32 (Dj.inl (Dj.of L1 G22))
            replace F29 := F29.chg hc32 (Dj.inl (Dj.of L2 G22))
            replace F30 := F30.chg hc32 (Dj.inl D85)
            replace F32 := F32.chg hc32 (Dj.inl D86)
            replace F33 := F33.chg hc32 (Dj.inl D87)
            replace F55 := F55.chg hc32 (Dj.inl D88)
            replace F63 := F63.chg hc32 (Dj.inl (D111).symm)
            replace hB := hB.inS hc32 (memS_inl (inLow G22))
            have hSz := hS
            replace hS := hS.inS hc32 (inLow (low_inl Gz5))
            have Sn9 := sin_ap (Sg := []) (inLow (low_inl Gz5)) hSz.size hp11
            replace hZ := Nat.le_trans hZ hc32.size
            refine wS_end (by kernel_rfl) ?_
            refine eX_KH hS ?_
            refine wH_all [14] (by rfl) (by kernel_rfl) (by simp) ⟨⟨by kernel_rfl, ?_⟩, trivial⟩
            obtain ⟨_, hk12, hm⟩ := bindE hm
            replace hk12 := apE hk12
            refine wS_appendHR (k := 1) (enc := encI) (ll := ((([] : List (List (Int)))) ++ l1 : List (List (Int)))) (ll2 := (([([x11, x12] : List (Int))] : List (List (Int))) : List (List (Int)))) (d := 90) (t := 26) (T := 32) (A := A28) (A2 := (some ⟨b14, 0, none⟩)) (cap := cap28) (cap2 := 1) (by kernel_rfl) el26 F64 (F63.slr encI_ok) (fun y hy hz => (D120).symm y (List.mem_append_left _ hy) hz) hk12 ?_
            intro w38 fp29 A29 cap29 F66 hc33 hp12
            have K17 := F66.cap_le
            have F67 := F66.slr
            have Gm10 := low_ap Gm9 hZ hp12
            have Rt16 : Rt w0.heap.size (fp0 ++ (fp1 ++ (fp2 ++ []))) (fp29 ++ (([] ++ fp1) ++ ([b14] ++ [b11]))) := Rt.app (Rt.low Gm10) (Rt.app (Rt.inr Rt15) (Rt.low G25))
            have D121 : Dj fp8 fp29 := Dj.ap D112 F30.low hp12
            have D122 : Dj [b4] fp29 := Dj.ap D113 F32.low hp12
            have D123 : Dj fp14 fp29 := Dj.ap D114 F33.low hp12
            have D124 : Dj [b11] fp29 := Dj.ap D115 F55.low hp12
            have D125 : Dj ([b14] ++ [b11]) fp29 := Dj.ap D116 F63.low hp12
            have D126 : Dj [b4] (fp29 ++ (([] ++ fp1) ++ ([b14] ++ [b11]))) := Dj.app (Dj.ap (Dj.inl D117) F32.low hp12) (Dj.app (Dj.inr D117) D109)
            have D127 : Dj fp14 (fp29 ++ (([] ++ fp1) ++ ([b14] ++ [b11]))) := Dj.app (Dj.ap (Dj.inl D118) F33.low hp12) (Dj.app (Dj.inr D118) D110)
            replace F27 := F27.chg hc33 (Dj.of L0 Gm9)
            replace F28 := F28.chg hc33 (Dj.of L1 Gm9)
            replace F29 := F29.chg hc33 (Dj.of L2 Gm9)
            replace F30 := F30.chg hc33 D112
            replace F32 := F32.chg hc33 D113
            replace F33 := F33.chg hc33 D114
            replace F55 := F55.chg hc33 D115
            replace F63 := F63.chg hc33 D116
            replace hB := hB.inS hc33 (inLow Gm9)
            have hSz := hS
            replace hS := hS.inS hc33 Sn9
            have Sn10 := sin_ap (Sg := []) Sn9 hSz.size hp12
            replace hZ := Nat.le_trans hZ hc33.size
            refine wS_end (by kernel_rfl) ?_
            refine eX_KH hS ?_
            refine wH_all [16] (by rfl) (by kernel_rfl) (by simp) ⟨⟨by kernel_rfl, ?_⟩, trivial⟩
            obtain ⟨y7, hy7, hm⟩ := bindE hm
            refine wS_calls (d := 92) (f := 33) (vs := [.slice A0 (l0).length cap0, .slice A29 (((([] : List (List (Int)))) ++ l1) ++ (([([x11, x12] : List (Int))] : List (List (Int))))).length cap29, .slice A14 (l8 ++ (([wr ((((l0).length : Int)) + (((l1).length : Int)))] : List (Int)))).length cap14]) (by kernel_rfl) ent33 (hR hy7 F27 F67 K17 (F33.sl encI_ok)) ?_
            rintro _ w39 ⟨A30, cap30, fp30, rfl, F68, G26, K18, hc34⟩
            have Rt17 : Rt w0.heap.size (fp0 ++ (fp1 ++ (fp2 ++ []))) fp30 := Rt.of G26 hZ (Rt.app (Rt.mem (fun x hx => (List.mem_append_left _ hx))) (Rt.app Rt16 (Rt.app (Rt.low G11) Rt.nil)))
            have D128 : Dj [b4] fp30 := Rt.dj G26 F32.low (Dj.app (Dj.of L0 G10).symm (Dj.app D126 (Dj.app D13 Dj.nil)))
            replace F27 := F27.chg hc34 Dj.nil
            replace F28 := F28.chg hc34 Dj.nil
            replace F29 := F29.chg hc34 Dj.nil
            replace F30 := F30.chg hc34 Dj.nil
            replace F32 := F32.chg hc34 Dj.nil
            replace F33 := F33.chg hc34 Dj.nil
            replace F55 := F55.chg hc34 Dj.nil
            replace F63 := F63.chg hc34 Dj.nil
            replace F67 := F67.chg hc34 Dj.nil
            replace F66 := F66.chg hc34 Dj.nil
            replace hB := hB.inS hc34 inNil
            have hSz := hS
            replace hS := hS.inS hc34 inNil
            replace hZ := Nat.le_trans hZ hc34.size
            refine ⟨.tuple #[.slice A30 (y7.1).length cap30, .int .i64 (y7.2)], rfl, ?_⟩
            refine wS_end (by kernel_rfl) ?_
            refine eX_KH hS ?_
            refine wH_take [17, 18, 19, 20] [20, 19, 18, 17, 16, 14, 3, 13, 1, 12, 15, 11, 10, 9, 8, 7, 6, 5, 4, 2, 0] [(16, .slice A30 (y7.1).length cap30), (94, .int .i64 (y7.2)), (93, .slice A30 (y7.1).length cap30), (75, .tuple #[.slice A30 (y7.1).length cap30, .int .i64 (y7.2)])] (by kernel_rfl) (qT (qT (qT (qT (qB (qT (qL (qB (qT (qB (qT (qL (qB (qT (qT qZ))))))))))))))) (by kernel_rfl) ?_
            refine wH_done (by kernel_rfl) ?_
            refine eX_tail ?_
            refine wS_pure 1 [(17, .int .i64 (y7.2))] (by kernel_rfl) ?_
            refine wS_end (by rfl) ?_
            have hq : (some ((y7.1, y7.2)) : Option ((List (List (Int))) × Int)) = some _ := hm
            replace hq := someE hq
            subst hq
            exact eX_J (fun hst => ⟨y7.1, A30, cap30, fp30, y7.2, rfl, Fr.of hst (by kernel_rfl), F27, F28, F29, F30, F68, Rt17, K18, hB, hZ⟩)
          ·skip
           refine wS_row1 (k := 1) (enc := encI) (l := ([x11, x12] : List (Int))) (d := 89) (t := 26) (T := 32) (B := (some ⟨b11, 0, none⟩)) (c := 2) (by kernel_rfl) el26 F55 ?_
           intro b15 w40 G27 F69 hc35
           have D129 : Dj fp8 ([b15] ++ [b11]) := Dj.app (Dj.of F30.low (low1 G27)) D82
           have D130 : Dj [b4] ([b15] ++ [b11]) := Dj.app (Dj.of F32.low (low1 G27)) D83
           have D131 : Dj fp14 ([b15] ++ [b11]) := Dj.app (Dj.of F33.low (low1 G27)) D84
           replace F27 := F27.chg hc35 Dj.nil
           replace F28 := F28.chg hc35 Dj.nil
           replace F29 := F29.chg hc35 Dj.nil
           replace F30 := F30.chg hc35 Dj.nil
           replace F32 := F32.chg hc35 Dj.nil
           replace F33 := F33.chg hc35 Dj.nil
           replace F55 := F55.chg hc35 Dj.nil
           replace hB := hB.inS hc35 inNil
           have hSz := hS
           replace hS := hS.inS hc35 inNil
           replace G27 := Nat.le_trans hZ G27
           replace G27 := lowApp (low1 G27) G21
           replace hZ := Nat.le_trans hZ hc35.size
           replace F55 := (F55.sl encI_ok)
           refine wS_end (by kernel_rfl) ?_
           refine eX_KH hS ?_
           refine wH_all [1] (by rfl) (by kernel_rfl) (by simp) ⟨⟨by kernel_rfl, ?_⟩, trivial⟩
           refine wS_rows0 (k := 1) (enc := encI) (d := 77) (t := 26) (T := 32) (T2 := 2) (by kernel_rfl) el26 ?_
           intro b16 w41 G28 F70 hc36
           have D132 : Dj fp8 ([b16] ++ []) := Dj.of F30.low (lowApp (low1 G28) lowNil)
           have D133 : Dj [b4] ([b16] ++ []) := Dj.of F32.low (lowApp (low1 G28) lowNil)
           have D134 : Dj fp14 ([b16] ++ []) := Dj.of F33.low (lowApp (low1 G28) lowNil)
           have D135 : Dj [b11] ([b16] ++ []) := Dj.of F55.low (lowApp (low1 G28) lowNil)
           have D136 : Dj ([b15] ++ [b11]) ([b16] ++ []) := Dj.of F69.low (lowApp (low1 G28) lowNil)
           replace F27 := F27.chg hc36 Dj.nil
           replace F28 := F28.chg hc36 Dj.nil
           replace F29 := F29.chg hc36 Dj.nil
           replace F30 := F30.chg hc36 Dj.nil
           replace F32 := F32.chg hc36 Dj.nil
           replace F33 := F33.chg hc36 Dj.nil
           replace F55 := F55.chg hc36 Dj.nil
           replace F69 := F69.chg hc36 Dj.nil
           replace hB := hB.inS hc36 inNil
           have hSz := hS
           replace hS := hS.inS hc36 inNil
           have Gz6 := low1 (Nat.le_trans hSz.size G28)
           replace G28 := Nat.le_trans hZ G28
           replace G28 := low1 G28
           replace hZ := Nat.le_trans hZ hc36.size
           replace G28 := lowApp G28 lowNil
           replace Gz6 := lowApp Gz6 lowNil
           refine wS_end (by kernel_rfl) ?_
           refine eX_KH hS ?_
           refine wH_all [3] (by rfl) (by kernel_rfl) (by simp) ⟨⟨by kernel_rfl, ?_⟩, trivial⟩
           obtain ⟨_, hk13, hm⟩ := bindE hm
           replace hk13 := apE hk13
           refine wS_appendHR (k := 1) (enc := encI) (ll := (([] : List (List (Int))) : List (List (Int)))) (ll2 := (l1 : List (List (Int)))) (d := 79) (t := 26) (T := 32) (A := (some ⟨b16, 0, none⟩)) (A2 := A1) (cap := 0) (cap2 := cap1) (by kernel_rfl) el26 (F70.hr encI_ok) F28 (fun y hy hz => (Dj.of L1 G28).symm y (List.mem_append_left _ hy) hz) hk13 ?_
           intro w42 fp31 A31 cap31 F71 hc37 hp13
           have K19 := F71.cap_le
           have F72 := F71.slr
           have Gm11 := low_ap (low_inl G28) hZ hp13
           have Rt18 : Rt w0.heap.size (fp0 ++ (fp1 ++ (fp2 ++ []))) (fp31 ++ ([] ++ fp1)) := Rt.app (Rt.low Gm11) (Rt.app (Rt.inr (Rt.low G28)) (Rt.mem (fun x hx => (List.mem_append_right _ (List.mem_append_left _ hx)))))
           have D137 : Dj fp8 fp31 := Dj.ap (Dj.inl D132) F30.low hp13
           have D138 : Dj [b4] fp31 := Dj.ap (Dj.inl D133) F32.low hp13
           have D139 : Dj fp14 fp31 := Dj.ap (Dj.inl D134) F33.low hp13
           have D140 : Dj [b11] fp31 := Dj.ap (Dj.inl D135) F55.low hp13
           have D141 : Dj ([b15] ++ [b11]) fp31 := Dj.ap (Dj.inl D136) F69.low hp13
           have D142 : Dj [b4] (fp31 ++ ([] ++ fp1)) := Dj.app (Dj.ap (Dj.inl D133) F32.low hp13) (Dj.app (Dj.inr D133) (Dj.of L1 G10).symm)
           have D143 : Dj fp14 (fp31 ++ ([] ++ fp1)) := Dj.app (Dj.ap (Dj.inl D134) F33.low hp13) (Dj.app (Dj.inr D134) (Dj.of L1 G11).symm)
           have D144 : Dj [b11] (fp31 ++ ([] ++ fp1)) := Dj.app (Dj.ap (Dj.inl D135) F55.low hp13) (Dj.app (Dj.inr D135) (Dj.of L1 G21).symm)
           have D145 : Dj ([b15] ++ [b11]) (fp31 ++ ([] ++ fp1)) := Dj.app (Dj.ap (Dj.inl D136) F69.low hp13) (Dj.app (Dj.inr D136) (Dj.of L1 G27).symm)
           replace F27 := F27.chg hc37 (Dj.inl (Dj.of L0 G28))
           replace F28 := F28.chg hc37 (Dj.inl (Dj.of L1 G28))
           replace F29 := F29.chg hc37 (Dj.inl (Dj.of L2 G28))
           replace F30 := F30.chg hc37 (Dj.inl D132)
           replace F32 := F32.chg hc37 (Dj.inl D133)
           replace F33 := F33.chg hc37 (Dj.inl D134)
           replace F55 := F55.chg hc37 (Dj.inl D135)
           replace F69 := F69.chg hc37 (Dj.inl D136)
           replace hB := hB.inS hc37 (memS_inl (inLow G28))
           have hSz := hS
           replace hS := hS.inS hc37 (inLow (low_inl Gz6))
           have Sn11 := sin_ap (Sg := []) (inLow (low_inl Gz6)) hSz.size hp13
           replace hZ := Nat.le_trans hZ hc37.size
           refine wS_end (by kernel_rfl) ?_
           refine eX_KH hS ?_
           refine wH_all [14] (by rfl) (by kernel_rfl) (by simp) ⟨⟨by kernel_rfl, ?_⟩, trivial⟩
           obtain ⟨_, hk14, hm⟩ := bindE hm
           replace hk14 := apE hk14
           refine wS_appendHR (k := 1) (enc := encI) (ll := ((([] : List (List (Int)))) ++ l1 : List (List (Int)))) (ll2 := (([([x11, x12] : List (Int))] : List (List (Int))) : List (List (Int)))) (d := 90) (t := 26) (T := 32) (A := A31) (A2 := (some ⟨b15, 0, none⟩)) (cap := cap31) (cap2 := 1) (by kernel_rfl) el26 F71 (F69.slr encI_ok) (fun y hy hz => (D145).symm y (List.mem_append_left _ hy) hz) hk14 ?_
           intro w43 fp32 A32 cap32 F73 hc38 hp14
           have K20 := F73.cap_le
           have F74 := F73.slr
           have Gm12 := low_ap Gm11 hZ hp14
           have Rt19 : Rt w0.heap.size (fp0 ++ (fp1 ++ (fp2 ++ []))) (fp32 ++ (([] ++ fp1) ++ ([b15] ++ [b11]))) := Rt.app (Rt.low Gm12) (Rt.app (Rt.inr Rt18) (Rt.low G27))
           have D146 : Dj fp8 fp32 := Dj.ap D137 F30.low hp14
           have D147 : Dj [b4] fp32 := Dj.ap D138 F32.low hp14
           have D148 : Dj fp14 fp32 := Dj.ap D139 F33.low hp14
           have D149 : Dj [b11] fp32 := Dj.ap D140 F55.low hp14
           have D150 : Dj ([b15] ++ [b11]) fp32 := Dj.ap D141 F69.low hp14
           have D151 : Dj [b4] (fp32 ++ (([] ++ fp1) ++ ([b15] ++ [b11]))) := Dj.app (Dj.ap (Dj.inl D142) F32.low hp14) (Dj.app (Dj.inr D142) D130)
           have D152 : Dj fp14 (fp32 ++ (([] ++ fp1) ++ ([b15] ++ [b11]))) := Dj.app (Dj.ap (Dj.inl D143) F33.low hp14) (Dj.app (Dj.inr D143) D131)
           replace F27 := F27.chg hc38 (Dj.of L0 Gm11)
           replace F28 := F28.chg hc38 (Dj.of L1 Gm11)
           replace F29 := F29.chg hc38 (Dj.of L2 Gm11)
           replace F30 := F30.chg hc38 D137
           replace F32 := F32.chg hc38 D138
           replace F33 := F33.chg hc38 D139
           replace F55 := F55.chg hc38 D140
           replace F69 := F69.chg hc38 D141
           replace hB := hB.inS hc38 (inLow Gm11)
           have hSz := hS
           replace hS := hS.inS hc38 Sn11
           have Sn12 := sin_ap (Sg := []) Sn11 hSz.size hp14
           replace hZ := Nat.le_trans hZ hc38.size
           refine wS_end (by kernel_rfl) ?_
           refine eX_KH hS ?_
           refine wH_all [16] (by rfl) (by kernel_rfl) (by simp) ⟨⟨by kernel_rfl, ?_⟩, trivial⟩
           obtain ⟨y8, hy8, hm⟩ := bindE hm
           refine wS_calls (d := 92) (f := 33) (vs := [.slice A0 (l0).length cap0, .slice A32 (((([] : List (List (Int)))) ++ l1) ++ (([([x11, x12] : List (Int))] : List (List (Int))))).length cap32, .slice A14 (l8 ++ (([wr ((((l0).length : Int)) + (((l1).length : Int)))] : List (Int)))).length cap14]) (by kernel_rfl) ent33 (hR hy8 F27 F74 K20 (F33.sl encI_ok)) ?_
           rintro _ w44 ⟨A33, cap33, fp33, rfl, F75, G29, K21, hc39⟩
           have Rt20 : Rt w0.heap.size (fp0 ++ (fp1 ++ (fp2 ++ []))) fp33 := Rt.of G29 hZ (Rt.app (Rt.mem (fun x hx => (List.mem_append_left _ hx))) (Rt.app Rt19 (Rt.app (Rt.low G11) Rt.nil)))
           have D153 : Dj [b4] fp33 := Rt.dj G29 F32.low (Dj.app (Dj.of L0 G10).symm (Dj.app D151 (Dj.app D13 Dj.nil)))
           replace F27 := F27.chg hc39 Dj.nil
           replace F28 := F28.chg hc39 Dj.nil
           replace F29 := F29.chg hc39 Dj.nil
           replace F30 := F30.chg hc39 Dj.nil
           replace F32 := F32.chg hc39 Dj.nil
           replace F33 := F33.chg hc39 Dj.nil
           replace F55 := F55.chg hc39 Dj.nil
           replace F69 := F69.chg hc39 Dj.nil
           replace F74 := F74.chg hc39 Dj.nil
           replace F73 := F73.chg hc39 Dj.nil
           replace hB := hB.inS hc39 inNil
           have hSz := hS
           replace hS := hS.inS hc39 inNil
           replace hZ := Nat.le_trans hZ hc39.size
           refine ⟨.tuple #[.slice A33 (y8.1).length cap33, .int .i64 (y8.2)], rfl, ?_⟩
           refine wS_end (by kernel_rfl) ?_
           refine eX_KH hS ?_
           refine wH_take [17, 18, 19, 20] [20, 19, 18, 17, 16, 14, 3, 1, 13, 12, 15, 11, 10, 9, 8, 7, 6, 5, 4, 2, 0] [(16, .slice A33 (y8.1).length cap33), (94, .int .i64 (y8.2)), (93, .slice A33 (y8.1).length cap33), (75, .tuple #[.slice A33 (y8.1).length cap33, .int .i64 (y8.2)])] (by kernel_rfl) (qT (qT (qT (qT (qB (qT (qL (qB (qT (qB (qT (qL (qB (qT (qT qZ))))))))))))))) (by kernel_rfl) ?_
           refine wH_done (by kernel_rfl) ?_
           refine eX_tail ?_
           refine wS_pure 1 [(17, .int .i64 (y8.2))] (by kernel_rfl) ?_
           refine wS_end (by rfl) ?_
           have hq : (some ((y8.1, y8.2)) : Option ((List (List (Int))) × Int)) = some _ := hm
           replace hq := someE hq
           subst hq
           exact eX_J (fun hst => ⟨y8.1, A33, cap33, fp33, y8.2, rfl, Fr.of hst (by kernel_rfl), F27, F28, F29, F30, F75, Rt20, K21, hB, hZ⟩)
        ·rintro a' w45 ⟨l11, A15, cap15, fp15, x10, hJ, hF6, F76, F77, F78, F79, F80, Rt21, K22, hB, hZ⟩
         subst hJ
         refine Fr.goX hF6 (by kernel_rfl) ?_
         refine eX_then ?_
         refine cW_seq ?_
         refine cW_region ?_
         refine wS_pure 3 [(97, .bool (decide (x5 < 0))), (96, .bool (decide (x5 < 0))), (95, .int .i64 (x5))] (by kernel_rfl) ?_
         refine wS_bool (decide (x5 < 0)) (fun hb7 => ?_) (fun hb7 => ?_)
         ·have hm := condT hb7 hm
          rewrite [hb7]
          refine wS_pure 4 [(101, .bool (true)), (100, undef), (99, undef), (98, undef)] (by kernel_rfl) ?_
          refine wS_end (by rfl) ?_
          refine eX_then ?_
          refine cW_cond_t (by kernel_rfl) ?_
          refine cW_seq ?_
          refine cW_region ?_
          refine wS_pure 2 [(10, .slice A15 (l11).length cap15), (102, .slice A15 (l11).length cap15)] (by kernel_rfl) ?_
          refine wS_end (by rfl) ?_
          refine eX_then ?_
          refine cW_region ?_
          refine wS_pure 2 [(11, .int .i64 (x10)), (103, .int .i64 (x10))] (by kernel_rfl) ?_
          refine wS_end (by rfl) ?_
          have hq : (some ((l11, x10)) : Option ((List (List (Int))) × Int)) = some _ := hm
          replace hq := someE hq
          subst hq
          exact eX_J (fun hst => ⟨l11, A15, cap15, fp15, x10, rfl, Fr.of hst (by kernel_rfl), F76, F77, F78, F80, Rt21, K22, hB, hZ⟩)
         ·have hm := condF hb7 hm
          rewrite [hb7]
          refine wS_pure 4 [(101, .bool (decide (x10 < x5))), (100, .bool (decide (x10 < x5))), (99, .int .i64 (x5)), (98, .int .i64 (x10))] (by kernel_rfl) ?_
          refine wS_end (by rfl) ?_
          refine eX_then ?_
          refine cW_cond (t := decide (x10 < x5)) (by kernel_rfl) (fun hb8 => ?_) (fun hb8 => ?_)
          ·have hm := condT hb8 hm
           refine cW_seq ?_
           refine cW_region ?_
           refine wS_pure 2 [(10, .slice A15 (l11).length cap15), (102, .slice A15 (l11).length cap15)] (by kernel_rfl) ?_
           refine wS_end (by rfl) ?_
           refine eX_then ?_
           refine cW_region ?_
           refine wS_pure 2 [(11, .int .i64 (x10)), (103, .int .i64 (x10))] (by kernel_rfl) ?_
           refine wS_end (by rfl) ?_
           have hq : (some ((l11, x10)) : Option ((List (List (Int))) × Int)) = some _ := hm
           replace hq := someE hq
           subst hq
           exact eX_J (fun hst => ⟨l11, A15, cap15, fp15, x10, rfl, Fr.of hst (by kernel_rfl), F76, F77, F78, F80, Rt21, K22, hB, hZ⟩)
          ·have hm := condF hb8 hm
           refine cW_skip ?_
           have hq : (some ((l6, x5)) : Option ((List (List (Int))) × Int)) = some _ := hm
           replace hq := someE hq
           subst hq
           exact eX_J (fun hst => ⟨l6, A8, cap8, fp8, x5, rfl, Fr.of hst (by kernel_rfl), F76, F77, F78, F79, Rt2, K3, hB, hZ⟩)
      ·rintro a' w46 ⟨l7, A9, cap9, fp9, x7, hJ, hF7, F81, F82, F83, F84, Rt22, K23, hB, hZ⟩
       subst hJ
       refine Fr.goX hF7 (by kernel_rfl) ?_
       refine eX_block ?_
       refine eX_then ?_
       refine cW_region ?_
       refine wS_pure 3 [(13, .int .i64 (wr (x6 + 1))), (44, .int .i64 (wr (x6 + 1))), (43, .int .i64 (x6))] (by kernel_rfl) ?_
       refine wS_end (by rfl) ?_
       have hq : (some (Ctl.next ((l7, x7, wr (x6 + 1)))) : Option (Ctl ((List (List (Int))) × Int × Int) ((List (List (Int))) × Int))) = some _ := hm
       replace hq := someE hq
       subst hq
       exact eX_next hx2 (fun hst => ⟨l7, A9, cap9, fp9, x7, wr (x6 + 1), rfl, Fr.of hst (by kernel_rfl), F81, F82, F83, F84, Rt22, K23, hB, hZ⟩)
     ·have hm := condF hb3 hm
      refine cW_exit ?_
      refine eX_then_exit ?_
      have hq : (some (Ctl.out ((l6, x5))) : Option (Ctl ((List (List (Int))) × Int × Int) ((List (List (Int))) × Int))) = some _ := hm
      replace hq := someE hq
      subst hq
      refine eX_outX hx2 (fun hr5 => ?_)
      replace hr5 := hr5.symm
      subst hr5
      refine eX_block_hit ?_
      exact eX_J (fun hst => ⟨l6, A8, cap8, fp8, x5, rfl, Fr.of hst (by kernel_rfl), F10, F11, F12, F13, Rt2, K3, hB, hZ⟩)
    ·rintro a' w47 ⟨l5, A7, cap7, fp7, x4, hJ, hF8, F85, F86, F87, F88, Rt23, K24, hB, hZ⟩
     subst hJ
     refine Fr.goX hF8 (by kernel_rfl) ?_
     refine eX_block ?_
     refine eX_then ?_
     refine cW_region ?_
     refine wS_pure 3 [(12, .int .i64 (wr (x3 + 1))), (36, .int .i64 (wr (x3 + 1))), (35, .int .i64 (x3))] (by kernel_rfl) ?_
     refine wS_end (by rfl) ?_
     have hq : (some (Ctl.next ((l5, x4, wr (x3 + 1)))) : Option (Ctl ((List (List (Int))) × Int × Int) ((List (List (Int))) × Int))) = some _ := hm
     replace hq := someE hq
     subst hq
     exact eX_next hx1 (fun hst => ⟨l5, A7, cap7, fp7, x4, wr (x3 + 1), rfl, Fr.of hst (by kernel_rfl), F85, F86, F87, F88, Rt23, K24, hB, hZ⟩)
   ·have hm := condF hb2 hm
    refine cW_exit ?_
    refine eX_then_exit ?_
    have hq : (some (Ctl.out ((l4, x2))) : Option (Ctl ((List (List (Int))) × Int × Int) ((List (List (Int))) × Int))) = some _ := hm
    replace hq := someE hq
    subst hq
    refine eX_outX hx1 (fun hr6 => ?_)
    replace hr6 := hr6.symm
    subst hr6
    refine eX_block_hit ?_
    exact eX_J (fun hst => ⟨l4, A6, cap6, fp6, x2, rfl, Fr.of hst (by kernel_rfl), F9, Rt1, K2, hB, hZ⟩)
  ·rintro a' w48 ⟨l3, A5, cap5, fp5, x1, hJ, hF9, F89, Rt24, K25, hB, hZ⟩
   subst hJ
   refine Fr.goX hF9 (by kernel_rfl) ?_
   refine eX_then ?_
   refine cW_seq ?_
   refine cW_region ?_
   refine wS_pure 4 [(7, .int .i64 (x1)), (6, .slice A5 (l3).length cap5), (105, .int .i64 (x1)), (104, .slice A5 (l3).length cap5)] (by kernel_rfl) ?_
   refine wS_end (by rfl) ?_
   refine eX_then ?_
   refine cW_ret ?_
   have hq : (some ((l3, x1)) : Option ((List (List (Int))) × (Int))) = some _ := hm
   replace hq := someE hq
   subst hq
   refine eX_ret (vs := [.slice A5 (l3).length cap5, .int .i64 (x1)]) [.tmp 6, .tmp 7] (by rfl) ⟨by (show lkE _ _ _ = _); kernel_rfl, ⟨by (show lkE _ _ _ = _); kernel_rfl, trivial⟩⟩ ?_
   exact ⟨A5, cap5, fp5, rfl, F89, Rt24, K25, hB⟩
set_option maxRecDepth 100000 in
theorem c_spec_l06Best (n : Nat) : ∀ {w0 : World} {l0 : List (Int × Int)} {A0 : Option Addr} {cap0 : Nat} {fp0 : List Nat} {l1 : List (List (Int))} {A1 : Option Addr} {cap1 : Nat} {fp1 : List Nat} {l2 : List (Int)} {A2 : Option Addr} {cap2 : Nat} {fp2 : List Nat} {r : (List (List (Int))) × (Int)} (hm : m_spec_l06Best n l0 l1 l2 = some r) (F0 : Sl 2 encII w0 fp0 A0 l0) (F1 : SlR 1 encI w0 fp1 A1 l1) (K1 : (l1).length ≤ cap1) (F2 : Sl 1 encI w0 fp2 A2 l2), Calls Try.prog 33 #[.slice A0 (l0).length cap0, .slice A1 (l1).length cap1, .slice A2 (l2).length cap2] w0 fun e w' => ∃ A100 cap100 fp100, e = .returned (.tuple #[.slice A100 (r.1).length cap100, .int .i64 (r.2)]) ∧ SlR 1 encI w' fp100 A100 r.1 ∧ Rt w0.heap.size (fp0 ++ (fp1 ++ (fp2 ++ []))) fp100 ∧ (r.1).length ≤ cap100 ∧ Chg [] w0 w' := by
 induction n with
 | zero => intro w0 l0 A0 cap0 fp0 l1 A1 cap1 fp1 l2 A2 cap2 fp2 r hm F0 F1 K1 F2; exact nomatch (show (none : Option ((List (List (Int))) × (Int))) = some r from hm)
 | succ n ih => intro w0 l0 A0 cap0 fp0 l1 A1 cap1 fp1 l2 A2 cap2 fp2 r hm F0 F1 K1 F2; exact c_spec_l06Best_body ih hm F0 F1 K1 F2


end Go.Proofs.Ytfjpfomdoohabaa
