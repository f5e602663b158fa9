/- Printed walks: spec.l00In, impl.in, impl.ValidRegion, spec.l01Point, spec.l00Max, laws.toPoint, impl.IsPoint, impl.size, spec.l06Far, (impl.Region).far, spec.l06Leaf, impl.leaf, spec.l06Grow, (impl.Region).grown, spec.l00Min, spec.l06Meet, (impl.Region).meet, laws.szInt64S, laws.szInt64SS, spec.l06Joins, laws.toInt64S, laws.toInt64SS, impl.IsJoins, laws.eqInt64S, laws.eqInt64SS, impl.mergeOk. -/
import Derived.Test.YtmodhpgnkbnbaaaProg
import Derived.Test.YtmodhpgnkbnbaaaMod
import Derived.Test.YtmodhpgnkbnbaaaRw3
set_option linter.unusedSimpArgs false
set_option linter.unusedVariables false
namespace Go.Proofs.Ytmodhpgnkbnbaaa
open Go.RowKit
attribute [local irreducible] wS cW eX wH

theorem ent23 : Ent Try.prog 23 := fun _ => by kernel_rfl
theorem ent53 : Ent Try.prog 53 := fun _ => by kernel_rfl
theorem ent55 : Ent Try.prog 55 := fun _ => by kernel_rfl
theorem ent79 : Ent Try.prog 79 := fun _ => by kernel_rfl
theorem ent88 : Ent Try.prog 88 := fun _ => by kernel_rfl
theorem ent93 : Ent Try.prog 93 := fun _ => by kernel_rfl
theorem ent104 : Ent Try.prog 104 := fun _ => by kernel_rfl
theorem ent105 : Ent Try.prog 105 := fun _ => by kernel_rfl
theorem vt2 : VarTy Try.prog 2 1 false := ⟨by kernel_rfl, by kernel_rfl⟩
theorem vt4 : VarTy Try.prog 4 1 false := ⟨by kernel_rfl, by kernel_rfl⟩
theorem vt25 : VarTy Try.prog 25 4 true := ⟨by kernel_rfl, by kernel_rfl⟩
theorem vt32 : VarTy Try.prog 32 2 true := ⟨by kernel_rfl, by kernel_rfl⟩
theorem vt68 : VarTy Try.prog 68 1 false := ⟨by kernel_rfl, by kernel_rfl⟩
theorem sl44 : SlTy Try.prog 44 68 1 := ⟨Try.underlying44, by kernel_rfl⟩
theorem sl68 : SlTy Try.prog 68 2 1 := ⟨Try.underlying68, by kernel_rfl⟩
theorem sl130 : SlTy Try.prog 130 4 1 := ⟨Try.underlying130, by kernel_rfl⟩
theorem el44 : ElTy Try.prog 44 68 1 (.slice none 0 0) := ElTy.mk' Try.underlying44 (by kernel_rfl) (by rfl)
theorem el68 : ElTy Try.prog 68 2 1 (.int .i64 (0)) := ElTy.mk' Try.underlying68 (by kernel_rfl) (by rfl)
theorem el130 : ElTy Try.prog 130 4 1 (.bool (false)) := ElTy.mk' Try.underlying130 (by kernel_rfl) (by rfl)
theorem mk103 : MK Try.prog 2 kI okI := mkI Try.underlying2
theorem mp103 : MpTy Try.prog 103 2 4 (vB false) := ⟨Try.underlying103, by kernel_rfl⟩
theorem sz2 : pureRun Try.prog (sizeOf 2) = some 1 := by kernel_rfl
theorem sz4 : pureRun Try.prog (sizeOf 4) = some 1 := by kernel_rfl
theorem sz25 : pureRun Try.prog (sizeOf 25) = some 4 := by kernel_rfl
theorem sz32 : pureRun Try.prog (sizeOf 32) = some 2 := by kernel_rfl
theorem sz68 : pureRun Try.prog (sizeOf 68) = some 1 := by kernel_rfl

set_option maxRecDepth 100000 in
/-- spec.l00In -/
theorem c_spec_l00In {w0 : World} {p0 : Int} {p1 : Int} {p2 : Int} {r : (Bool)} (hm : m_spec_l00In p0 p1 p2 = some r)  :
    Calls Try.prog 88 #[.int .i64 (p0), .int .i64 (p1), .int .i64 (p2)] w0 fun e w' => e = .returned (.bool (r)) ∧ Chg [] w0 w' := by
  have hB : Chg [] w0 w0 := Chg.refl _ _
  have hZ := Nat.le_refl w0.heap.size
  unfold m_spec_l00In at hm
  refine enterE (N := 15) Try.func88 (by rfl) Try.ntmps88 (by simp) [(0, .int .i64 (p0)), (1, .int .i64 (p1)), (2, .int .i64 (p2))] (by rfl) (by kernel_rfl) (fun a => ?_)
  refine cW_seq ?_
  refine cW_region ?_
  refine wS_pure 1 [(6, .bool (false))] (by kernel_rfl) ?_
  refine wS_end (by rfl) ?_
  refine eX_then ?_
  refine cW_seq ?_
  refine cW_region ?_
  refine wS_pure 4 [(10, .bool (decide (p0 ≥ p1))), (9, .bool (decide (p0 ≥ p1))), (8, .int .i64 (p1)), (7, .int .i64 (p0))] (by kernel_rfl) ?_
  refine wS_bool (decide (p0 ≥ p1)) (fun hb1 => ?_) (fun hb1 => ?_)
  · have hm := condT hb1 hm
    rewrite [hb1]
    refine wS_pure 5 [(6, .bool (decide (p0 ≤ p2))), (14, .bool (decide (p0 ≤ p2))), (13, .bool (decide (p0 ≤ p2))), (12, .int .i64 (p2)), (11, .int .i64 (p0))] (by kernel_rfl) ?_
    refine wS_end (by rfl) ?_
    refine eX_then ?_
    refine cW_ret ?_
    have hq : (some (decide (p0 ≤ p2)) : Option ((Bool))) = some _ := hm
    replace hq := someE hq
    subst hq
    refine eX_ret (vs := [.bool (decide (p0 ≤ p2))]) [.tmp 6] (by rfl) ⟨by (show lkE _ _ _ = _); kernel_rfl, trivial⟩ ?_
    exact ⟨rfl, hB⟩
  · have hm := condF hb1 hm
    rewrite [hb1]
    refine wS_pure 5 [(6, .bool (false)), (14, .bool (false)), (13, undef), (12, undef), (11, undef)] (by kernel_rfl) ?_
    refine wS_end (by rfl) ?_
    refine eX_then ?_
    refine cW_ret ?_
    have hq : (some false : Option ((Bool))) = some _ := hm
    replace hq := someE hq
    subst hq
    refine eX_ret (vs := [.bool (false)]) [.tmp 6] (by rfl) ⟨by (show lkE _ _ _ = _); kernel_rfl, trivial⟩ ?_
    exact ⟨rfl, hB⟩

set_option maxRecDepth 100000 in
/-- impl.in -/
theorem c_impl_in {w0 : World} {p0 : Int} {p1 : Int} {p2 : Int} {r : (Bool)} (hm : m_impl_in p0 p1 p2 = some r)  :
    Calls Try.prog 79 #[.int .i64 (p0), .int .i64 (p1), .int .i64 (p2)] w0 fun e w' => e = .returned (.bool (r)) ∧ Chg [] w0 w' := by
  have hB : Chg [] w0 w0 := Chg.refl _ _
  have hZ := Nat.le_refl w0.heap.size
  unfold m_impl_in at hm
  refine enterE (N := 15) Try.func79 (by rfl) Try.ntmps79 (by simp) [(0, .int .i64 (p0)), (1, .int .i64 (p1)), (2, .int .i64 (p2))] (by rfl) (by kernel_rfl) (fun a => ?_)
  refine cW_seq ?_
  refine cW_region ?_
  refine wS_pure 1 [(6, .bool (false))] (by kernel_rfl) ?_
  refine wS_end (by rfl) ?_
  refine eX_then ?_
  refine cW_seq ?_
  refine cW_region ?_
  refine wS_pure 4 [(10, .bool (decide (p0 ≥ p1))), (9, .bool (decide (p0 ≥ p1))), (8, .int .i64 (p1)), (7, .int .i64 (p0))] (by kernel_rfl) ?_
  refine wS_bool (decide (p0 ≥ p1)) (fun hb1 => ?_) (fun hb1 => ?_)
  · have hm := condT hb1 hm
    rewrite [hb1]
    refine wS_pure 5 [(6, .bool (decide (p0 ≤ p2))), (14, .bool (decide (p0 ≤ p2))), (13, .bool (decide (p0 ≤ p2))), (12, .int .i64 (p2)), (11, .int .i64 (p0))] (by kernel_rfl) ?_
    refine wS_end (by rfl) ?_
    refine eX_then ?_
    refine cW_ret ?_
    have hq : (some (decide (p0 ≤ p2)) : Option ((Bool))) = some _ := hm
    replace hq := someE hq
    subst hq
    refine eX_ret (vs := [.bool (decide (p0 ≤ p2))]) [.tmp 6] (by rfl) ⟨by (show lkE _ _ _ = _); kernel_rfl, trivial⟩ ?_
    exact ⟨rfl, hB⟩
  · have hm := condF hb1 hm
    rewrite [hb1]
    refine wS_pure 5 [(6, .bool (false)), (14, .bool (false)), (13, undef), (12, undef), (11, undef)] (by kernel_rfl) ?_
    refine wS_end (by rfl) ?_
    refine eX_then ?_
    refine cW_ret ?_
    have hq : (some false : Option ((Bool))) = some _ := hm
    replace hq := someE hq
    subst hq
    refine eX_ret (vs := [.bool (false)]) [.tmp 6] (by rfl) ⟨by (show lkE _ _ _ = _); kernel_rfl, trivial⟩ ?_
    exact ⟨rfl, hB⟩

set_option maxRecDepth 100000 in
/-- impl.ValidRegion -/
theorem c_impl_ValidRegion {w0 : World} {p0_0 : Int} {p0_1 : Int} {p0_2 : Int} {p0_3 : Int} {r : (Bool)} (hm : m_impl_ValidRegion p0_0 p0_1 p0_2 p0_3 = some r)  :
    Calls Try.prog 23 #[.agg #[.int .i64 (p0_0), .int .i64 (p0_1), .int .i64 (p0_2), .int .i64 (p0_3)]] w0 fun e w' => e = .returned (.bool (r)) ∧ Chg [] w0 w' := by
  have hB : Chg [] w0 w0 := Chg.refl _ _
  have hZ := Nat.le_refl w0.heap.size
  unfold m_impl_ValidRegion at hm
  refine enterE (N := 25) Try.func23 (by rfl) Try.ntmps23 (by simp) [(0, .agg #[.int .i64 (p0_0), .int .i64 (p0_1), .int .i64 (p0_2), .int .i64 (p0_3)])] (by rfl) (by kernel_rfl) (fun a => ?_)
  refine cW_seq ?_
  refine cW_region ?_
  refine wS_box (d := 1) (T := 25) (x := .agg #[.int .i64 (p0_0), .int .i64 (p0_1), .int .i64 (p0_2), .int .i64 (p0_3)]) (by kernel_rfl) ?_
  intro b1 w2 G3 F4 hc5
  replace F4 : Cl w2 b1 25 [.int .i64 (p0_0), .int .i64 (p0_1), .int .i64 (p0_2), .int .i64 (p0_3)] := F4
  replace hB := hB.inS hc5 inNil
  replace G3 := Nat.le_trans hZ G3
  replace hZ := Nat.le_trans hZ hc5.size
  refine wS_pure 1 [(2, .bool (false))] (by kernel_rfl) ?_
  refine wS_end (by rfl) ?_
  refine eX_then ?_
  refine cW_seq ?_
  refine cW_region ?_
  refine wS_pure 1 [(3, .pointer (some ⟨b1, 0, none⟩))] (by kernel_rfl) ?_
  refine wS_load1 (d := 4) (T := 2) (ad := ⟨b1, 0, none⟩) (v := .int .i64 (p0_0)) (by kernel_rfl) vt2 ((F4).cell 0) ?_
  refine wS_pure 1 [(5, .pointer (some ⟨b1, 1, none⟩))] (by kernel_rfl) ?_
  refine wS_load1 (d := 6) (T := 2) (ad := ⟨b1, 1, none⟩) (v := .int .i64 (p0_1)) (by kernel_rfl) vt2 ((F4).cell 1) ?_
  obtain ⟨y7, hy8, hm⟩ := bindE hm
  refine wS_calls (d := 7) (f := 79) (vs := [.int .i64 (p0_0), .int .i64 ((-1000000000)), .int .i64 (p0_1)]) (by kernel_rfl) ent79 (c_impl_in hy8) ?_
  rintro _ w9 ⟨rfl, hc10⟩
  replace F4 := F4.chg hc10 notNil
  replace hB := hB.inS hc10 inNil
  replace hZ := Nat.le_trans hZ hc10.size
  refine ⟨.bool (y7), rfl, ?_⟩
  refine wS_pure 1 [(8, .bool (y7))] (by kernel_rfl) ?_
  refine wS_bool y7 (fun hb11 => ?_) (fun hb11 => ?_)
  · have hm := condT hb11 hm
    rewrite [hb11]
    refine wS_pure 1 [(9, .pointer (some ⟨b1, 2, none⟩))] (by kernel_rfl) ?_
    refine wS_load1 (d := 10) (T := 2) (ad := ⟨b1, 2, none⟩) (v := .int .i64 (p0_2)) (by kernel_rfl) vt2 ((F4).cell 2) ?_
    refine wS_pure 1 [(11, .pointer (some ⟨b1, 3, none⟩))] (by kernel_rfl) ?_
    refine wS_load1 (d := 12) (T := 2) (ad := ⟨b1, 3, none⟩) (v := .int .i64 (p0_3)) (by kernel_rfl) vt2 ((F4).cell 3) ?_
    obtain ⟨y12, hy13, hm⟩ := bindE hm
    refine wS_calls (d := 13) (f := 79) (vs := [.int .i64 (p0_2), .int .i64 ((-1000000000)), .int .i64 (p0_3)]) (by kernel_rfl) ent79 (c_impl_in hy13) ?_
    rintro _ w14 ⟨rfl, hc15⟩
    replace F4 := F4.chg hc15 notNil
    replace hB := hB.inS hc15 inNil
    replace hZ := Nat.le_trans hZ hc15.size
    refine ⟨.bool (y12), rfl, ?_⟩
    refine wS_pure 2 [(15, .bool (y12)), (14, .bool (y12))] (by kernel_rfl) ?_
    refine wS_bool y12 (fun hb16 => ?_) (fun hb16 => ?_)
    · have hm := condT hb16 hm
      rewrite [hb16]
      refine wS_pure 1 [(16, .pointer (some ⟨b1, 1, none⟩))] (by kernel_rfl) ?_
      refine wS_load1 (d := 17) (T := 2) (ad := ⟨b1, 1, none⟩) (v := .int .i64 (p0_1)) (by kernel_rfl) vt2 ((F4).cell 1) ?_
      refine wS_pure 3 [(20, .bool (decide (p0_1 ≤ 1000000000))), (19, .bool (decide (p0_1 ≤ 1000000000))), (18, .bool (decide (p0_1 ≤ 1000000000)))] (by kernel_rfl) ?_
      refine wS_bool (decide (p0_1 ≤ 1000000000)) (fun hb17 => ?_) (fun hb17 => ?_)
      · have hm := condT hb17 hm
        rewrite [hb17]
        refine wS_pure 1 [(21, .pointer (some ⟨b1, 3, none⟩))] (by kernel_rfl) ?_
        refine wS_load1 (d := 22) (T := 2) (ad := ⟨b1, 3, none⟩) (v := .int .i64 (p0_3)) (by kernel_rfl) vt2 ((F4).cell 3) ?_
        refine wS_pure 3 [(2, .bool (decide (p0_3 ≤ 1000000000))), (24, .bool (decide (p0_3 ≤ 1000000000))), (23, .bool (decide (p0_3 ≤ 1000000000)))] (by kernel_rfl) ?_
        refine wS_end (by rfl) ?_
        refine eX_then ?_
        refine cW_prune [(2, .bool (decide (p0_3 ≤ 1000000000)))] (by kernel_rfl) (by kernel_rfl) (fun a18 => ?_)
        refine cW_ret ?_
        have hq : (some (decide (p0_3 ≤ 1000000000)) : Option ((Bool))) = some _ := hm
        replace hq := someE hq
        subst hq
        refine eX_ret (vs := [.bool (decide (p0_3 ≤ 1000000000))]) [.tmp 2] (by rfl) ⟨by (show lkE _ _ _ = _); kernel_rfl, trivial⟩ ?_
        exact ⟨rfl, hB⟩
      · have hm := condF hb17 hm
        rewrite [hb17]
        refine wS_pure 5 [(2, .bool (false)), (24, .bool (false)), (23, undef), (22, undef), (21, undef)] (by kernel_rfl) ?_
        refine wS_end (by rfl) ?_
        refine eX_then ?_
        refine cW_prune [(2, .bool (false))] (by kernel_rfl) (by kernel_rfl) (fun a19 => ?_)
        refine cW_ret ?_
        have hq : (some false : Option ((Bool))) = some _ := hm
        replace hq := someE hq
        subst hq
        refine eX_ret (vs := [.bool (false)]) [.tmp 2] (by rfl) ⟨by (show lkE _ _ _ = _); kernel_rfl, trivial⟩ ?_
        exact ⟨rfl, hB⟩
    · have hm := condF hb16 hm
      rewrite [hb16]
      refine wS_pure 10 [(2, .bool (false)), (24, .bool (false)), (23, undef), (22, undef), (21, undef), (20, .bool (false)), (19, .bool (false)), (18, undef), (17, undef), (16, undef)] (by kernel_rfl) ?_
      refine wS_end (by rfl) ?_
      refine eX_then ?_
      refine cW_prune [(2, .bool (false))] (by kernel_rfl) (by kernel_rfl) (fun a20 => ?_)
      refine cW_ret ?_
      have hq : (some false : Option ((Bool))) = some _ := hm
      replace hq := someE hq
      subst hq
      refine eX_ret (vs := [.bool (false)]) [.tmp 2] (by rfl) ⟨by (show lkE _ _ _ = _); kernel_rfl, trivial⟩ ?_
      exact ⟨rfl, hB⟩
  · have hm := condF hb11 hm
    rewrite [hb11]
    refine wS_pure 17 [(2, .bool (false)), (24, .bool (false)), (23, undef), (22, undef), (21, undef), (20, .bool (false)), (19, .bool (false)), (18, undef), (17, undef), (16, undef), (15, .bool (false)), (14, .bool (false)), (13, undef), (12, undef), (11, undef), (10, undef), (9, undef)] (by kernel_rfl) ?_
    refine wS_end (by rfl) ?_
    refine eX_then ?_
    refine cW_prune [(2, .bool (false))] (by kernel_rfl) (by kernel_rfl) (fun a21 => ?_)
    refine cW_ret ?_
    have hq : (some false : Option ((Bool))) = some _ := hm
    replace hq := someE hq
    subst hq
    refine eX_ret (vs := [.bool (false)]) [.tmp 2] (by rfl) ⟨by (show lkE _ _ _ = _); kernel_rfl, trivial⟩ ?_
    exact ⟨rfl, hB⟩

set_option maxRecDepth 100000 in
/-- spec.l01Point -/
theorem c_spec_l01Point {w0 : World} {p0_0 : Int} {p0_1 : Int} {r : (Bool)} (hm : m_spec_l01Point p0_0 p0_1 = some r)  :
    Calls Try.prog 80 #[.agg #[.int .i64 (p0_0), .int .i64 (p0_1)]] w0 fun e w' => e = .returned (.bool (r)) ∧ Chg [] w0 w' := by
  have hB : Chg [] w0 w0 := Chg.refl _ _
  have hZ := Nat.le_refl w0.heap.size
  unfold m_spec_l01Point at hm
  refine enterE (N := 11) Try.func80 (by rfl) Try.ntmps80 (by simp) [(0, .agg #[.int .i64 (p0_0), .int .i64 (p0_1)])] (by rfl) (by kernel_rfl) (fun a => ?_)
  refine cW_seq ?_
  refine cW_region ?_
  refine wS_box (d := 1) (T := 32) (x := .agg #[.int .i64 (p0_0), .int .i64 (p0_1)]) (by kernel_rfl) ?_
  intro b1 w2 G3 F4 hc5
  replace F4 : Cl w2 b1 32 [.int .i64 (p0_0), .int .i64 (p0_1)] := F4
  replace hB := hB.inS hc5 inNil
  replace G3 := Nat.le_trans hZ G3
  replace hZ := Nat.le_trans hZ hc5.size
  refine wS_pure 1 [(2, .bool (false))] (by kernel_rfl) ?_
  refine wS_end (by rfl) ?_
  refine eX_then ?_
  refine cW_seq ?_
  refine cW_region ?_
  refine wS_pure 1 [(3, .pointer (some ⟨b1, 0, none⟩))] (by kernel_rfl) ?_
  refine wS_load1 (d := 4) (T := 2) (ad := ⟨b1, 0, none⟩) (v := .int .i64 (p0_0)) (by kernel_rfl) vt2 ((F4).cell 0) ?_
  obtain ⟨y7, hy8, hm⟩ := bindE hm
  refine wS_calls (d := 5) (f := 88) (vs := [.int .i64 (p0_0), .int .i64 (0), .int .i64 (99)]) (by kernel_rfl) ent88 (c_spec_l00In hy8) ?_
  rintro _ w9 ⟨rfl, hc10⟩
  replace F4 := F4.chg hc10 notNil
  replace hB := hB.inS hc10 inNil
  replace hZ := Nat.le_trans hZ hc10.size
  refine ⟨.bool (y7), rfl, ?_⟩
  refine wS_pure 1 [(6, .bool (y7))] (by kernel_rfl) ?_
  refine wS_bool y7 (fun hb11 => ?_) (fun hb11 => ?_)
  · have hm := condT hb11 hm
    rewrite [hb11]
    refine wS_pure 1 [(7, .pointer (some ⟨b1, 1, none⟩))] (by kernel_rfl) ?_
    refine wS_load1 (d := 8) (T := 2) (ad := ⟨b1, 1, none⟩) (v := .int .i64 (p0_1)) (by kernel_rfl) vt2 ((F4).cell 1) ?_
    obtain ⟨y12, hy13, hm⟩ := bindE hm
    refine wS_calls (d := 9) (f := 88) (vs := [.int .i64 (p0_1), .int .i64 (0), .int .i64 (99)]) (by kernel_rfl) ent88 (c_spec_l00In hy13) ?_
    rintro _ w14 ⟨rfl, hc15⟩
    replace F4 := F4.chg hc15 notNil
    replace hB := hB.inS hc15 inNil
    replace hZ := Nat.le_trans hZ hc15.size
    refine ⟨.bool (y12), rfl, ?_⟩
    refine wS_pure 2 [(2, .bool (y12)), (10, .bool (y12))] (by kernel_rfl) ?_
    refine wS_end (by rfl) ?_
    refine eX_then ?_
    refine cW_ret ?_
    have hq : (some y12 : Option ((Bool))) = some _ := hm
    replace hq := someE hq
    subst hq
    refine eX_ret (vs := [.bool (y12)]) [.tmp 2] (by rfl) ⟨by (show lkE _ _ _ = _); kernel_rfl, trivial⟩ ?_
    exact ⟨rfl, hB⟩
  · have hm := condF hb11 hm
    rewrite [hb11]
    refine wS_pure 5 [(2, .bool (false)), (10, .bool (false)), (9, undef), (8, undef), (7, undef)] (by kernel_rfl) ?_
    refine wS_end (by rfl) ?_
    refine eX_then ?_
    refine cW_ret ?_
    have hq : (some false : Option ((Bool))) = some _ := hm
    replace hq := someE hq
    subst hq
    refine eX_ret (vs := [.bool (false)]) [.tmp 2] (by rfl) ⟨by (show lkE _ _ _ = _); kernel_rfl, trivial⟩ ?_
    exact ⟨rfl, hB⟩

set_option maxRecDepth 100000 in
/-- spec.l00Max -/
theorem c_spec_l00Max {w0 : World} {p0 : Int} {p1 : Int} {r : (Int)} (hm : m_spec_l00Max p0 p1 = some r)  :
    Calls Try.prog 105 #[.int .i64 (p0), .int .i64 (p1)] w0 fun e w' => e = .returned (.int .i64 (r)) ∧ Chg [] w0 w' := by
  have hB : Chg [] w0 w0 := Chg.refl _ _
  have hZ := Nat.le_refl w0.heap.size
  unfold m_spec_l00Max at hm
  refine enterE (N := 10) Try.func105 (by rfl) Try.ntmps105 (by simp) [(0, .int .i64 (p0)), (1, .int .i64 (p1))] (by rfl) (by kernel_rfl) (fun a => ?_)
  refine cW_seq ?_
  refine cW_region ?_
  refine wS_pure 1 [(4, .int .i64 (0))] (by kernel_rfl) ?_
  refine wS_end (by rfl) ?_
  refine eX_then ?_
  refine cW_seq ?_
  refine cW_seq ?_
  refine cW_region ?_
  refine wS_pure 3 [(7, .bool (decide (p0 > p1))), (6, .int .i64 (p1)), (5, .int .i64 (p0))] (by kernel_rfl) ?_
  refine wS_end (by rfl) ?_
  refine eX_then ?_
  refine cW_cond (t := decide (p0 > p1)) (by kernel_rfl) (fun hb1 => ?_) (fun hb1 => ?_)
  · have hm := condT hb1 hm
    refine cW_seq ?_
    refine cW_region ?_
    refine wS_pure 2 [(4, .int .i64 (p0)), (8, .int .i64 (p0))] (by kernel_rfl) ?_
    refine wS_end (by rfl) ?_
    refine eX_then ?_
    refine cW_ret ?_
    refine eX_then_ret ?_
    have hq : (some p0 : Option ((Int))) = some _ := hm
    replace hq := someE hq
    subst hq
    refine eX_ret (vs := [.int .i64 (p0)]) [.tmp 4] (by rfl) ⟨by (show lkE _ _ _ = _); kernel_rfl, trivial⟩ ?_
    exact ⟨rfl, hB⟩
  · have hm := condF hb1 hm
    refine cW_skip ?_
    refine eX_then ?_
    refine cW_seq ?_
    refine cW_region ?_
    refine wS_pure 2 [(4, .int .i64 (p1)), (9, .int .i64 (p1))] (by kernel_rfl) ?_
    refine wS_end (by rfl) ?_
    refine eX_then ?_
    refine cW_ret ?_
    have hq : (some p1 : Option ((Int))) = some _ := hm
    replace hq := someE hq
    subst hq
    refine eX_ret (vs := [.int .i64 (p1)]) [.tmp 4] (by rfl) ⟨by (show lkE _ _ _ = _); kernel_rfl, trivial⟩ ?_
    exact ⟨rfl, hB⟩

set_option maxRecDepth 100000 in
/-- laws.toPoint -/
theorem c_laws_toPoint {w0 : World} {p0_0 : Int} {p0_1 : Int} {r : (Int × Int)} (hm : m_laws_toPoint p0_0 p0_1 = some r)  :
    Calls Try.prog 25 #[.agg #[.int .i64 (p0_0), .int .i64 (p0_1)]] w0 fun e w' => e = .returned (.agg #[.int .i64 (r.1), .int .i64 (r.2)]) ∧ Chg [] w0 w' := by
  have hB : Chg [] w0 w0 := Chg.refl _ _
  have hZ := Nat.le_refl w0.heap.size
  unfold m_laws_toPoint at hm
  refine enterE (N := 11) Try.func25 (by rfl) Try.ntmps25 (by simp) [(0, .agg #[.int .i64 (p0_0), .int .i64 (p0_1)])] (by rfl) (by kernel_rfl) (fun a => ?_)
  refine cW_seq ?_
  refine cW_region ?_
  refine wS_box (d := 1) (T := 29) (x := .agg #[.int .i64 (p0_0), .int .i64 (p0_1)]) (by kernel_rfl) ?_
  intro b1 w2 G3 F4 hc5
  replace F4 : Cl w2 b1 29 [.int .i64 (p0_0), .int .i64 (p0_1)] := F4
  replace hB := hB.inS hc5 inNil
  replace G3 := Nat.le_trans hZ G3
  replace hZ := Nat.le_trans hZ hc5.size
  refine wS_alloc (d := 2) (T := 32) (z := .agg #[.int .i64 (0), .int .i64 (0)]) (by kernel_rfl) (by kernel_rfl) ?_
  intro b7 w8 G9 F10 hc11
  replace F10 : Cl w8 b7 32 [.int .i64 (0), .int .i64 (0)] := F10
  have D13 : Dj [b1] [b7] := Dj.of (lt1 F4.lt) (low1 G9)
  replace F4 := F4.chg hc11 notNil
  replace hB := hB.inS hc11 inNil
  replace G9 := Nat.le_trans hZ G9
  replace hZ := Nat.le_trans hZ hc11.size
  refine wS_end (by rfl) ?_
  refine eX_then ?_
  refine cW_seq ?_
  refine cW_region ?_
  refine wS_alloc (d := 3) (T := 32) (z := .agg #[.int .i64 (0), .int .i64 (0)]) (by kernel_rfl) (by kernel_rfl) ?_
  intro b14 w15 G16 F17 hc18
  replace F17 : Cl w15 b14 32 [.int .i64 (0), .int .i64 (0)] := F17
  have D20 : Dj [b1] [b14] := Dj.of (lt1 F4.lt) (low1 G16)
  have D21 : Dj [b7] [b14] := Dj.of (lt1 F10.lt) (low1 G16)
  replace F4 := F4.chg hc18 notNil
  replace F10 := F10.chg hc18 notNil
  replace hB := hB.inS hc18 inNil
  replace G16 := Nat.le_trans hZ G16
  replace hZ := Nat.le_trans hZ hc18.size
  refine wS_end (by rfl) ?_
  refine eX_then ?_
  refine cW_seq ?_
  refine cW_region ?_
  refine wS_pure 1 [(4, .pointer (some ⟨b1, 0, none⟩))] (by kernel_rfl) ?_
  refine wS_load1 (d := 5) (T := 2) (ad := ⟨b1, 0, none⟩) (v := .int .i64 (p0_0)) (by kernel_rfl) vt2 ((F4).cell 0) ?_
  refine wS_pure 1 [(6, .pointer (some ⟨b14, 0, none⟩))] (by kernel_rfl) ?_
  refine wS_store (T := 2) (g := b14) (o := 0) (ad := ⟨b14, 0, none⟩) (v := .int .i64 (p0_0)) (vs := [.int .i64 (p0_0)]) (by kernel_rfl) (by rfl) sz2 (by rfl) (by rfl) F17 (by simp only [List.length_cons, List.length_nil]; omega) ?_
  intro w22 F23 hc24
  replace F4 := F4.chg hc24 (dj1 D20)
  replace F10 := F10.chg hc24 (dj1 D21)
  replace hB := hB.inS hc24 (inLow (low1 G16))
  replace hZ := Nat.le_trans hZ hc24.size
  replace F23 : Cl w22 b14 32 [.int .i64 (p0_0), .int .i64 (0)] := F23
  clear F17
  refine wS_end (by rfl) ?_
  refine eX_then ?_
  refine cW_seq ?_
  refine cW_region ?_
  refine wS_pure 1 [(7, .pointer (some ⟨b1, 1, none⟩))] (by kernel_rfl) ?_
  refine wS_load1 (d := 8) (T := 2) (ad := ⟨b1, 1, none⟩) (v := .int .i64 (p0_1)) (by kernel_rfl) vt2 ((F4).cell 1) ?_
  refine wS_pure 1 [(9, .pointer (some ⟨b14, 1, none⟩))] (by kernel_rfl) ?_
  refine wS_store (T := 2) (g := b14) (o := 1) (ad := ⟨b14, 1, none⟩) (v := .int .i64 (p0_1)) (vs := [.int .i64 (p0_1)]) (by kernel_rfl) (by rfl) sz2 (by rfl) (by rfl) F23 (by simp only [List.length_cons, List.length_nil]; omega) ?_
  intro w25 F26 hc27
  replace F4 := F4.chg hc27 (dj1 D20)
  replace F10 := F10.chg hc27 (dj1 D21)
  replace hB := hB.inS hc27 (inLow (low1 G16))
  replace hZ := Nat.le_trans hZ hc27.size
  replace F26 : Cl w25 b14 32 [.int .i64 (p0_0), .int .i64 (p0_1)] := F26
  clear F23
  refine wS_end (by rfl) ?_
  refine eX_then ?_
  refine cW_seq ?_
  refine cW_region ?_
  refine wS_loadA (d := 10) (T := 32) (ad := ⟨b14, 0, none⟩) (vs := [.int .i64 (p0_0), .int .i64 (p0_1)]) (by kernel_rfl) vt32 (fun i u hu => box_cells F26 0 hu (by rfl)) ?_
  refine wS_store (T := 32) (g := b7) (o := 0) (ad := ⟨b7, 0, none⟩) (v := .agg #[.int .i64 (p0_0), .int .i64 (p0_1)]) (vs := [.int .i64 (p0_0), .int .i64 (p0_1)]) (by kernel_rfl) (by rfl) sz32 (by rfl) (by rfl) F10 (by simp only [List.length_cons, List.length_nil]; omega) ?_
  intro w28 F29 hc30
  replace F4 := F4.chg hc30 (dj1 D13)
  replace F26 := F26.chg hc30 (dj1 (D21).symm)
  replace hB := hB.inS hc30 (inLow (low1 G9))
  replace hZ := Nat.le_trans hZ hc30.size
  replace F29 : Cl w28 b7 32 [.int .i64 (p0_0), .int .i64 (p0_1)] := F29
  clear F10
  refine wS_end (by rfl) ?_
  refine eX_then ?_
  refine cW_ret ?_
  have hq : (some ((p0_0, p0_1)) : Option ((Int × Int))) = some _ := hm
  replace hq := someE hq
  subst hq
  refine eX_ret (vs := [.agg #[.int .i64 (p0_0), .int .i64 (p0_1)]]) [.cell 2 32] (by rfl) ⟨⟨⟨b7, 0, none⟩, by kernel_rfl, run_loadVarA (vs := [.int .i64 (p0_0), .int .i64 (p0_1)]) vt32 (fun i u hu => by exact box_cells F29 0 hu (by rfl))⟩, trivial⟩ ?_
  exact ⟨rfl, hB⟩

set_option maxRecDepth 100000 in
/-- impl.IsPoint -/
theorem c_impl_IsPoint {w0 : World} {p0_0 : Int} {p0_1 : Int} {r : (Bool)} (hm : m_impl_IsPoint p0_0 p0_1 = some r)  :
    Calls Try.prog 82 #[.agg #[.int .i64 (p0_0), .int .i64 (p0_1)]] w0 fun e w' => e = .returned (.bool (r)) ∧ Chg [] w0 w' := by
  have hB : Chg [] w0 w0 := Chg.refl _ _
  have hZ := Nat.le_refl w0.heap.size
  unfold m_impl_IsPoint at hm
  refine enterE (N := 11) Try.func82 (by rfl) Try.ntmps82 (by simp) [(0, .agg #[.int .i64 (p0_0), .int .i64 (p0_1)])] (by rfl) (by kernel_rfl) (fun a => ?_)
  refine cW_seq ?_
  refine cW_region ?_
  refine wS_box (d := 1) (T := 32) (x := .agg #[.int .i64 (p0_0), .int .i64 (p0_1)]) (by kernel_rfl) ?_
  intro b1 w2 G3 F4 hc5
  replace F4 : Cl w2 b1 32 [.int .i64 (p0_0), .int .i64 (p0_1)] := F4
  replace hB := hB.inS hc5 inNil
  replace G3 := Nat.le_trans hZ G3
  replace hZ := Nat.le_trans hZ hc5.size
  refine wS_pure 1 [(2, .bool (false))] (by kernel_rfl) ?_
  refine wS_end (by rfl) ?_
  refine eX_then ?_
  refine cW_seq ?_
  refine cW_region ?_
  refine wS_pure 1 [(3, .pointer (some ⟨b1, 0, none⟩))] (by kernel_rfl) ?_
  refine wS_load1 (d := 4) (T := 2) (ad := ⟨b1, 0, none⟩) (v := .int .i64 (p0_0)) (by kernel_rfl) vt2 ((F4).cell 0) ?_
  obtain ⟨y7, hy8, hm⟩ := bindE hm
  refine wS_calls (d := 5) (f := 79) (vs := [.int .i64 (p0_0), .int .i64 (0), .int .i64 (99)]) (by kernel_rfl) ent79 (c_impl_in hy8) ?_
  rintro _ w9 ⟨rfl, hc10⟩
  replace F4 := F4.chg hc10 notNil
  replace hB := hB.inS hc10 inNil
  replace hZ := Nat.le_trans hZ hc10.size
  refine ⟨.bool (y7), rfl, ?_⟩
  refine wS_pure 1 [(6, .bool (y7))] (by kernel_rfl) ?_
  refine wS_bool y7 (fun hb11 => ?_) (fun hb11 => ?_)
  · have hm := condT hb11 hm
    rewrite [hb11]
    refine wS_pure 1 [(7, .pointer (some ⟨b1, 1, none⟩))] (by kernel_rfl) ?_
    refine wS_load1 (d := 8) (T := 2) (ad := ⟨b1, 1, none⟩) (v := .int .i64 (p0_1)) (by kernel_rfl) vt2 ((F4).cell 1) ?_
    obtain ⟨y12, hy13, hm⟩ := bindE hm
    refine wS_calls (d := 9) (f := 79) (vs := [.int .i64 (p0_1), .int .i64 (0), .int .i64 (99)]) (by kernel_rfl) ent79 (c_impl_in hy13) ?_
    rintro _ w14 ⟨rfl, hc15⟩
    replace F4 := F4.chg hc15 notNil
    replace hB := hB.inS hc15 inNil
    replace hZ := Nat.le_trans hZ hc15.size
    refine ⟨.bool (y12), rfl, ?_⟩
    refine wS_pure 2 [(2, .bool (y12)), (10, .bool (y12))] (by kernel_rfl) ?_
    refine wS_end (by rfl) ?_
    refine eX_then ?_
    refine cW_ret ?_
    have hq : (some y12 : Option ((Bool))) = some _ := hm
    replace hq := someE hq
    subst hq
    refine eX_ret (vs := [.bool (y12)]) [.tmp 2] (by rfl) ⟨by (show lkE _ _ _ = _); kernel_rfl, trivial⟩ ?_
    exact ⟨rfl, hB⟩
  · have hm := condF hb11 hm
    rewrite [hb11]
    refine wS_pure 5 [(2, .bool (false)), (10, .bool (false)), (9, undef), (8, undef), (7, undef)] (by kernel_rfl) ?_
    refine wS_end (by rfl) ?_
    refine eX_then ?_
    refine cW_ret ?_
    have hq : (some false : Option ((Bool))) = some _ := hm
    replace hq := someE hq
    subst hq
    refine eX_ret (vs := [.bool (false)]) [.tmp 2] (by rfl) ⟨by (show lkE _ _ _ = _); kernel_rfl, trivial⟩ ?_
    exact ⟨rfl, hB⟩

set_option maxRecDepth 100000 in
/-- impl.size -/
theorem c_impl_size {w0 : World} {p0 : Int} {r : (Int)} (hm : m_impl_size p0 = some r)  :
    Calls Try.prog 123 #[.int .i64 (p0)] w0 fun e w' => e = .returned (.int .i64 (r)) ∧ Chg [] w0 w' := by
  have hB : Chg [] w0 w0 := Chg.refl _ _
  have hZ := Nat.le_refl w0.heap.size
  unfold m_impl_size at hm
  refine enterE (N := 7) Try.func123 (by rfl) Try.ntmps123 (by simp) [(0, .int .i64 (p0))] (by rfl) (by kernel_rfl) (fun a => ?_)
  refine cW_seq ?_
  refine cW_region ?_
  refine wS_pure 1 [(2, .int .i64 (0))] (by kernel_rfl) ?_
  refine wS_end (by rfl) ?_
  refine eX_then ?_
  refine cW_seq ?_
  refine cW_region ?_
  refine wS_pure 5 [(2, .int .i64 (if (wr (0 - p0)) > p0 then (wr (0 - p0)) else p0)), (6, .int .i64 (if (wr (0 - p0)) > p0 then (wr (0 - p0)) else p0)), (5, .int .i64 (wr (0 - p0))), (4, .int .i64 (p0)), (3, .int .i64 (p0))] (by kernel_rfl) ?_
  refine wS_end (by rfl) ?_
  refine eX_then ?_
  refine cW_ret ?_
  have hq : (some (if (wr (0 - p0)) > p0 then (wr (0 - p0)) else p0) : Option ((Int))) = some _ := hm
  replace hq := someE hq
  subst hq
  refine eX_ret (vs := [.int .i64 (if (wr (0 - p0)) > p0 then (wr (0 - p0)) else p0)]) [.tmp 2] (by rfl) ⟨by (show lkE _ _ _ = _); kernel_rfl, trivial⟩ ?_
  exact ⟨rfl, hB⟩

set_option maxRecDepth 100000 in
/-- spec.l06Far -/
theorem c_spec_l06Far {w0 : World} {p0_0 : Int} {p0_1 : Int} {p0_2 : Int} {p0_3 : Int} {p1_0 : Int} {p1_1 : Int} {p1_2 : Int} {p1_3 : Int} {r : (Int)} (hm : m_spec_l06Far p0_0 p0_1 p0_2 p0_3 p1_0 p1_1 p1_2 p1_3 = some r)  :
    Calls Try.prog 84 #[.agg #[.int .i64 (p0_0), .int .i64 (p0_1), .int .i64 (p0_2), .int .i64 (p0_3)], .agg #[.int .i64 (p1_0), .int .i64 (p1_1), .int .i64 (p1_2), .int .i64 (p1_3)]] w0 fun e w' => e = .returned (.int .i64 (r)) ∧ Chg [] w0 w' := by
  have hB : Chg [] w0 w0 := Chg.refl _ _
  have hZ := Nat.le_refl w0.heap.size
  unfold m_spec_l06Far at hm
  refine enterE (N := 34) Try.func84 (by rfl) Try.ntmps84 (by simp) [(0, .agg #[.int .i64 (p0_0), .int .i64 (p0_1), .int .i64 (p0_2), .int .i64 (p0_3)]), (1, .agg #[.int .i64 (p1_0), .int .i64 (p1_1), .int .i64 (p1_2), .int .i64 (p1_3)])] (by rfl) (by kernel_rfl) (fun a => ?_)
  refine cW_seq ?_
  refine cW_region ?_
  refine wS_box (d := 2) (T := 25) (x := .agg #[.int .i64 (p0_0), .int .i64 (p0_1), .int .i64 (p0_2), .int .i64 (p0_3)]) (by kernel_rfl) ?_
  intro b1 w2 G3 F4 hc5
  replace F4 : Cl w2 b1 25 [.int .i64 (p0_0), .int .i64 (p0_1), .int .i64 (p0_2), .int .i64 (p0_3)] := F4
  replace hB := hB.inS hc5 inNil
  replace G3 := Nat.le_trans hZ G3
  replace hZ := Nat.le_trans hZ hc5.size
  refine wS_box (d := 3) (T := 25) (x := .agg #[.int .i64 (p1_0), .int .i64 (p1_1), .int .i64 (p1_2), .int .i64 (p1_3)]) (by kernel_rfl) ?_
  intro b7 w8 G9 F10 hc11
  replace F10 : Cl w8 b7 25 [.int .i64 (p1_0), .int .i64 (p1_1), .int .i64 (p1_2), .int .i64 (p1_3)] := F10
  have D13 : Dj [b1] [b7] := Dj.of (lt1 F4.lt) (low1 G9)
  replace F4 := F4.chg hc11 notNil
  replace hB := hB.inS hc11 inNil
  replace G9 := Nat.le_trans hZ G9
  replace hZ := Nat.le_trans hZ hc11.size
  refine wS_pure 1 [(4, .int .i64 (0))] (by kernel_rfl) ?_
  refine wS_end (by rfl) ?_
  refine eX_then ?_
  refine cW_seq ?_
  refine cW_region ?_
  refine wS_pure 1 [(7, .pointer (some ⟨b1, 0, none⟩))] (by kernel_rfl) ?_
  refine wS_load1 (d := 8) (T := 2) (ad := ⟨b1, 0, none⟩) (v := .int .i64 (p0_0)) (by kernel_rfl) vt2 ((F4).cell 0) ?_
  refine wS_pure 1 [(9, .pointer (some ⟨b7, 1, none⟩))] (by kernel_rfl) ?_
  refine wS_load1 (d := 10) (T := 2) (ad := ⟨b7, 1, none⟩) (v := .int .i64 (p1_1)) (by kernel_rfl) vt2 ((F10).cell 1) ?_
  refine wS_pure 2 [(12, .pointer (some ⟨b7, 0, none⟩)), (11, .int .i64 (wr (p0_0 - p1_1)))] (by kernel_rfl) ?_
  refine wS_load1 (d := 13) (T := 2) (ad := ⟨b7, 0, none⟩) (v := .int .i64 (p1_0)) (by kernel_rfl) vt2 ((F10).cell 0) ?_
  refine wS_pure 1 [(14, .pointer (some ⟨b1, 1, none⟩))] (by kernel_rfl) ?_
  refine wS_load1 (d := 15) (T := 2) (ad := ⟨b1, 1, none⟩) (v := .int .i64 (p0_1)) (by kernel_rfl) vt2 ((F4).cell 1) ?_
  refine wS_pure 1 [(16, .int .i64 (wr (p1_0 - p0_1)))] (by kernel_rfl) ?_
  obtain ⟨y14, hy15, hm⟩ := bindE hm
  refine wS_calls (d := 17) (f := 105) (vs := [.int .i64 (wr (p0_0 - p1_1)), .int .i64 (wr (p1_0 - p0_1))]) (by kernel_rfl) ent105 (c_spec_l00Max hy15) ?_
  rintro _ w16 ⟨rfl, hc17⟩
  replace F4 := F4.chg hc17 notNil
  replace F10 := F10.chg hc17 notNil
  replace hB := hB.inS hc17 inNil
  replace hZ := Nat.le_trans hZ hc17.size
  refine ⟨.int .i64 (y14), rfl, ?_⟩
  obtain ⟨y18, hy19, hm⟩ := bindE hm
  refine wS_calls (d := 18) (f := 105) (vs := [.int .i64 (0), .int .i64 (y14)]) (by kernel_rfl) ent105 (c_spec_l00Max hy19) ?_
  rintro _ w20 ⟨rfl, hc21⟩
  replace F4 := F4.chg hc21 notNil
  replace F10 := F10.chg hc21 notNil
  replace hB := hB.inS hc21 inNil
  replace hZ := Nat.le_trans hZ hc21.size
  refine ⟨.int .i64 (y18), rfl, ?_⟩
  refine wS_pure 1 [(5, .int .i64 (y18))] (by kernel_rfl) ?_
  refine wS_end (by rfl) ?_
  refine eX_then ?_
  refine cW_seq ?_
  refine cW_region ?_
  refine wS_pure 1 [(19, .pointer (some ⟨b1, 2, none⟩))] (by kernel_rfl) ?_
  refine wS_load1 (d := 20) (T := 2) (ad := ⟨b1, 2, none⟩) (v := .int .i64 (p0_2)) (by kernel_rfl) vt2 ((F4).cell 2) ?_
  refine wS_pure 1 [(21, .pointer (some ⟨b7, 3, none⟩))] (by kernel_rfl) ?_
  refine wS_load1 (d := 22) (T := 2) (ad := ⟨b7, 3, none⟩) (v := .int .i64 (p1_3)) (by kernel_rfl) vt2 ((F10).cell 3) ?_
  refine wS_pure 2 [(24, .pointer (some ⟨b7, 2, none⟩)), (23, .int .i64 (wr (p0_2 - p1_3)))] (by kernel_rfl) ?_
  refine wS_load1 (d := 25) (T := 2) (ad := ⟨b7, 2, none⟩) (v := .int .i64 (p1_2)) (by kernel_rfl) vt2 ((F10).cell 2) ?_
  refine wS_pure 1 [(26, .pointer (some ⟨b1, 3, none⟩))] (by kernel_rfl) ?_
  refine wS_load1 (d := 27) (T := 2) (ad := ⟨b1, 3, none⟩) (v := .int .i64 (p0_3)) (by kernel_rfl) vt2 ((F4).cell 3) ?_
  refine wS_pure 1 [(28, .int .i64 (wr (p1_2 - p0_3)))] (by kernel_rfl) ?_
  obtain ⟨y22, hy23, hm⟩ := bindE hm
  refine wS_calls (d := 29) (f := 105) (vs := [.int .i64 (wr (p0_2 - p1_3)), .int .i64 (wr (p1_2 - p0_3))]) (by kernel_rfl) ent105 (c_spec_l00Max hy23) ?_
  rintro _ w24 ⟨rfl, hc25⟩
  replace F4 := F4.chg hc25 notNil
  replace F10 := F10.chg hc25 notNil
  replace hB := hB.inS hc25 inNil
  replace hZ := Nat.le_trans hZ hc25.size
  refine ⟨.int .i64 (y22), rfl, ?_⟩
  obtain ⟨y26, hy27, hm⟩ := bindE hm
  refine wS_calls (d := 30) (f := 105) (vs := [.int .i64 (0), .int .i64 (y22)]) (by kernel_rfl) ent105 (c_spec_l00Max hy27) ?_
  rintro _ w28 ⟨rfl, hc29⟩
  replace F4 := F4.chg hc29 notNil
  replace F10 := F10.chg hc29 notNil
  replace hB := hB.inS hc29 inNil
  replace hZ := Nat.le_trans hZ hc29.size
  refine ⟨.int .i64 (y26), rfl, ?_⟩
  refine wS_pure 1 [(6, .int .i64 (y26))] (by kernel_rfl) ?_
  refine wS_end (by rfl) ?_
  refine eX_then ?_
  refine cW_prune [(5, .int .i64 (y18)), (6, .int .i64 (y26))] (by kernel_rfl) (by kernel_rfl) (fun a30 => ?_)
  refine cW_seq ?_
  refine cW_region ?_
  refine wS_pure 2 [(32, .int .i64 (y26)), (31, .int .i64 (y18))] (by kernel_rfl) ?_
  obtain ⟨y31, hy32, hm⟩ := bindE hm
  refine wS_calls (d := 33) (f := 105) (vs := [.int .i64 (y18), .int .i64 (y26)]) (by kernel_rfl) ent105 (c_spec_l00Max hy32) ?_
  rintro _ w33 ⟨rfl, hc34⟩
  replace F4 := F4.chg hc34 notNil
  replace F10 := F10.chg hc34 notNil
  replace hB := hB.inS hc34 inNil
  replace hZ := Nat.le_trans hZ hc34.size
  refine ⟨.int .i64 (y31), rfl, ?_⟩
  refine wS_pure 1 [(4, .int .i64 (y31))] (by kernel_rfl) ?_
  refine wS_end (by rfl) ?_
  refine eX_then ?_
  refine cW_ret ?_
  have hq : (some y31 : Option ((Int))) = some _ := hm
  replace hq := someE hq
  subst hq
  refine eX_ret (vs := [.int .i64 (y31)]) [.tmp 4] (by rfl) ⟨by (show lkE _ _ _ = _); kernel_rfl, trivial⟩ ?_
  exact ⟨rfl, hB⟩

set_option maxRecDepth 100000 in
/-- impl.Region).far -/
theorem c_impl_Region_far {w0 : World} {p0_0 : Int} {p0_1 : Int} {p0_2 : Int} {p0_3 : Int} {p1_0 : Int} {p1_1 : Int} {p1_2 : Int} {p1_3 : Int} {r : (Int)} (hm : m_impl_Region_far p0_0 p0_1 p0_2 p0_3 p1_0 p1_1 p1_2 p1_3 = some r)  :
    Calls Try.prog 85 #[.agg #[.int .i64 (p0_0), .int .i64 (p0_1), .int .i64 (p0_2), .int .i64 (p0_3)], .agg #[.int .i64 (p1_0), .int .i64 (p1_1), .int .i64 (p1_2), .int .i64 (p1_3)]] w0 fun e w' => e = .returned (.int .i64 (r)) ∧ Chg [] w0 w' := by
  have hB : Chg [] w0 w0 := Chg.refl _ _
  have hZ := Nat.le_refl w0.heap.size
  unfold m_impl_Region_far at hm
  refine enterE (N := 26) Try.func85 (by rfl) Try.ntmps85 (by simp) [(0, .agg #[.int .i64 (p0_0), .int .i64 (p0_1), .int .i64 (p0_2), .int .i64 (p0_3)]), (1, .agg #[.int .i64 (p1_0), .int .i64 (p1_1), .int .i64 (p1_2), .int .i64 (p1_3)])] (by rfl) (by kernel_rfl) (fun a => ?_)
  refine cW_seq ?_
  refine cW_region ?_
  refine wS_box (d := 2) (T := 25) (x := .agg #[.int .i64 (p0_0), .int .i64 (p0_1), .int .i64 (p0_2), .int .i64 (p0_3)]) (by kernel_rfl) ?_
  intro b1 w2 G3 F4 hc5
  replace F4 : Cl w2 b1 25 [.int .i64 (p0_0), .int .i64 (p0_1), .int .i64 (p0_2), .int .i64 (p0_3)] := F4
  replace hB := hB.inS hc5 inNil
  replace G3 := Nat.le_trans hZ G3
  replace hZ := Nat.le_trans hZ hc5.size
  refine wS_box (d := 3) (T := 25) (x := .agg #[.int .i64 (p1_0), .int .i64 (p1_1), .int .i64 (p1_2), .int .i64 (p1_3)]) (by kernel_rfl) ?_
  intro b7 w8 G9 F10 hc11
  replace F10 : Cl w8 b7 25 [.int .i64 (p1_0), .int .i64 (p1_1), .int .i64 (p1_2), .int .i64 (p1_3)] := F10
  have D13 : Dj [b1] [b7] := Dj.of (lt1 F4.lt) (low1 G9)
  replace F4 := F4.chg hc11 notNil
  replace hB := hB.inS hc11 inNil
  replace G9 := Nat.le_trans hZ G9
  replace hZ := Nat.le_trans hZ hc11.size
  refine wS_pure 1 [(4, .int .i64 (0))] (by kernel_rfl) ?_
  refine wS_end (by rfl) ?_
  refine eX_then ?_
  refine cW_seq ?_
  refine cW_region ?_
  refine wS_pure 1 [(5, .pointer (some ⟨b1, 0, none⟩))] (by kernel_rfl) ?_
  refine wS_load1 (d := 6) (T := 2) (ad := ⟨b1, 0, none⟩) (v := .int .i64 (p0_0)) (by kernel_rfl) vt2 ((F4).cell 0) ?_
  refine wS_pure 1 [(7, .pointer (some ⟨b7, 1, none⟩))] (by kernel_rfl) ?_
  refine wS_load1 (d := 8) (T := 2) (ad := ⟨b7, 1, none⟩) (v := .int .i64 (p1_1)) (by kernel_rfl) vt2 ((F10).cell 1) ?_
  refine wS_pure 2 [(10, .pointer (some ⟨b7, 0, none⟩)), (9, .int .i64 (wr (p0_0 - p1_1)))] (by kernel_rfl) ?_
  refine wS_load1 (d := 11) (T := 2) (ad := ⟨b7, 0, none⟩) (v := .int .i64 (p1_0)) (by kernel_rfl) vt2 ((F10).cell 0) ?_
  refine wS_pure 1 [(12, .pointer (some ⟨b1, 1, none⟩))] (by kernel_rfl) ?_
  refine wS_load1 (d := 13) (T := 2) (ad := ⟨b1, 1, none⟩) (v := .int .i64 (p0_1)) (by kernel_rfl) vt2 ((F4).cell 1) ?_
  refine wS_pure 2 [(15, .pointer (some ⟨b1, 2, none⟩)), (14, .int .i64 (wr (p1_0 - p0_1)))] (by kernel_rfl) ?_
  refine wS_load1 (d := 16) (T := 2) (ad := ⟨b1, 2, none⟩) (v := .int .i64 (p0_2)) (by kernel_rfl) vt2 ((F4).cell 2) ?_
  refine wS_pure 1 [(17, .pointer (some ⟨b7, 3, none⟩))] (by kernel_rfl) ?_
  refine wS_load1 (d := 18) (T := 2) (ad := ⟨b7, 3, none⟩) (v := .int .i64 (p1_3)) (by kernel_rfl) vt2 ((F10).cell 3) ?_
  refine wS_pure 2 [(20, .pointer (some ⟨b7, 2, none⟩)), (19, .int .i64 (wr (p0_2 - p1_3)))] (by kernel_rfl) ?_
  refine wS_load1 (d := 21) (T := 2) (ad := ⟨b7, 2, none⟩) (v := .int .i64 (p1_2)) (by kernel_rfl) vt2 ((F10).cell 2) ?_
  refine wS_pure 1 [(22, .pointer (some ⟨b1, 3, none⟩))] (by kernel_rfl) ?_
  refine wS_load1 (d := 23) (T := 2) (ad := ⟨b1, 3, none⟩) (v := .int .i64 (p0_3)) (by kernel_rfl) vt2 ((F4).cell 3) ?_
  refine wS_pure 3 [(4, .int .i64 (if (wr (p1_2 - p0_3)) > (if (wr (p0_2 - p1_3)) > (if (wr (p1_0 - p0_1)) > (if (wr (p0_0 - p1_1)) > 0 then (wr (p0_0 - p1_1)) else 0) then (wr (p1_0 - p0_1)) else (if (wr (p0_0 - p1_1)) > 0 then (wr (p0_0 - p1_1)) else 0)) then (wr (p0_2 - p1_3)) else (if (wr (p1_0 - p0_1)) > (if (wr (p0_0 - p1_1)) > 0 then (wr (p0_0 - p1_1)) else 0) then (wr (p1_0 - p0_1)) else (if (wr (p0_0 - p1_1)) > 0 then (wr (p0_0 - p1_1)) else 0))) then (wr (p1_2 - p0_3)) else (if (wr (p0_2 - p1_3)) > (if (wr (p1_0 - p0_1)) > (if (wr (p0_0 - p1_1)) > 0 then (wr (p0_0 - p1_1)) else 0) then (wr (p1_0 - p0_1)) else (if (wr (p0_0 - p1_1)) > 0 then (wr (p0_0 - p1_1)) else 0)) then (wr (p0_2 - p1_3)) else (if (wr (p1_0 - p0_1)) > (if (wr (p0_0 - p1_1)) > 0 then (wr (p0_0 - p1_1)) else 0) then (wr (p1_0 - p0_1)) else (if (wr (p0_0 - p1_1)) > 0 then (wr (p0_0 - p1_1)) else 0))))), (25, .int .i64 (if (wr (p1_2 - p0_3)) > (if (wr (p0_2 - p1_3)) > (if (wr (p1_0 - p0_1)) > (if (wr (p0_0 - p1_1)) > 0 then (wr (p0_0 - p1_1)) else 0) then (wr (p1_0 - p0_1)) else (if (wr (p0_0 - p1_1)) > 0 then (wr (p0_0 - p1_1)) else 0)) then (wr (p0_2 - p1_3)) else (if (wr (p1_0 - p0_1)) > (if (wr (p0_0 - p1_1)) > 0 then (wr (p0_0 - p1_1)) else 0) then (wr (p1_0 - p0_1)) else (if (wr (p0_0 - p1_1)) > 0 then (wr (p0_0 - p1_1)) else 0))) then (wr (p1_2 - p0_3)) else (if (wr (p0_2 - p1_3)) > (if (wr (p1_0 - p0_1)) > (if (wr (p0_0 - p1_1)) > 0 then (wr (p0_0 - p1_1)) else 0) then (wr (p1_0 - p0_1)) else (if (wr (p0_0 - p1_1)) > 0 then (wr (p0_0 - p1_1)) else 0)) then (wr (p0_2 - p1_3)) else (if (wr (p1_0 - p0_1)) > (if (wr (p0_0 - p1_1)) > 0 then (wr (p0_0 - p1_1)) else 0) then (wr (p1_0 - p0_1)) else (if (wr (p0_0 - p1_1)) > 0 then (wr (p0_0 - p1_1)) else 0))))), (24, .int .i64 (wr (p1_2 - p0_3)))] (by kernel_rfl) ?_
  refine wS_end (by rfl) ?_
  refine eX_then ?_
  refine cW_prune [(4, .int .i64 (if (wr (p1_2 - p0_3)) > (if (wr (p0_2 - p1_3)) > (if (wr (p1_0 - p0_1)) > (if (wr (p0_0 - p1_1)) > 0 then (wr (p0_0 - p1_1)) else 0) then (wr (p1_0 - p0_1)) else (if (wr (p0_0 - p1_1)) > 0 then (wr (p0_0 - p1_1)) else 0)) then (wr (p0_2 - p1_3)) else (if (wr (p1_0 - p0_1)) > (if (wr (p0_0 - p1_1)) > 0 then (wr (p0_0 - p1_1)) else 0) then (wr (p1_0 - p0_1)) else (if (wr (p0_0 - p1_1)) > 0 then (wr (p0_0 - p1_1)) else 0))) then (wr (p1_2 - p0_3)) else (if (wr (p0_2 - p1_3)) > (if (wr (p1_0 - p0_1)) > (if (wr (p0_0 - p1_1)) > 0 then (wr (p0_0 - p1_1)) else 0) then (wr (p1_0 - p0_1)) else (if (wr (p0_0 - p1_1)) > 0 then (wr (p0_0 - p1_1)) else 0)) then (wr (p0_2 - p1_3)) else (if (wr (p1_0 - p0_1)) > (if (wr (p0_0 - p1_1)) > 0 then (wr (p0_0 - p1_1)) else 0) then (wr (p1_0 - p0_1)) else (if (wr (p0_0 - p1_1)) > 0 then (wr (p0_0 - p1_1)) else 0)))))] (by kernel_rfl) (by kernel_rfl) (fun a14 => ?_)
  refine cW_ret ?_
  have hq : (some (if (wr (p1_2 - p0_3)) > (if (wr (p0_2 - p1_3)) > (if (wr (p1_0 - p0_1)) > (if (wr (p0_0 - p1_1)) > 0 then (wr (p0_0 - p1_1)) else 0) then (wr (p1_0 - p0_1)) else (if (wr (p0_0 - p1_1)) > 0 then (wr (p0_0 - p1_1)) else 0)) then (wr (p0_2 - p1_3)) else (if (wr (p1_0 - p0_1)) > (if (wr (p0_0 - p1_1)) > 0 then (wr (p0_0 - p1_1)) else 0) then (wr (p1_0 - p0_1)) else (if (wr (p0_0 - p1_1)) > 0 then (wr (p0_0 - p1_1)) else 0))) then (wr (p1_2 - p0_3)) else (if (wr (p0_2 - p1_3)) > (if (wr (p1_0 - p0_1)) > (if (wr (p0_0 - p1_1)) > 0 then (wr (p0_0 - p1_1)) else 0) then (wr (p1_0 - p0_1)) else (if (wr (p0_0 - p1_1)) > 0 then (wr (p0_0 - p1_1)) else 0)) then (wr (p0_2 - p1_3)) else (if (wr (p1_0 - p0_1)) > (if (wr (p0_0 - p1_1)) > 0 then (wr (p0_0 - p1_1)) else 0) then (wr (p1_0 - p0_1)) else (if (wr (p0_0 - p1_1)) > 0 then (wr (p0_0 - p1_1)) else 0)))) : Option ((Int))) = some _ := hm
  replace hq := someE hq
  subst hq
  refine eX_ret (vs := [.int .i64 (if (wr (p1_2 - p0_3)) > (if (wr (p0_2 - p1_3)) > (if (wr (p1_0 - p0_1)) > (if (wr (p0_0 - p1_1)) > 0 then (wr (p0_0 - p1_1)) else 0) then (wr (p1_0 - p0_1)) else (if (wr (p0_0 - p1_1)) > 0 then (wr (p0_0 - p1_1)) else 0)) then (wr (p0_2 - p1_3)) else (if (wr (p1_0 - p0_1)) > (if (wr (p0_0 - p1_1)) > 0 then (wr (p0_0 - p1_1)) else 0) then (wr (p1_0 - p0_1)) else (if (wr (p0_0 - p1_1)) > 0 then (wr (p0_0 - p1_1)) else 0))) then (wr (p1_2 - p0_3)) else (if (wr (p0_2 - p1_3)) > (if (wr (p1_0 - p0_1)) > (if (wr (p0_0 - p1_1)) > 0 then (wr (p0_0 - p1_1)) else 0) then (wr (p1_0 - p0_1)) else (if (wr (p0_0 - p1_1)) > 0 then (wr (p0_0 - p1_1)) else 0)) then (wr (p0_2 - p1_3)) else (if (wr (p1_0 - p0_1)) > (if (wr (p0_0 - p1_1)) > 0 then (wr (p0_0 - p1_1)) else 0) then (wr (p1_0 - p0_1)) else (if (wr (p0_0 - p1_1)) > 0 then (wr (p0_0 - p1_1)) else 0))))]) [.tmp 4] (by rfl) ⟨by (show lkE _ _ _ = _); kernel_rfl, trivial⟩ ?_
  exact ⟨rfl, hB⟩

set_option maxRecDepth 100000 in
/-- spec.l06Leaf -/
theorem c_spec_l06Leaf {w0 : World} {p0_0 : Int} {p0_1 : Int} {r : (Int × Int × Int × Int)} (hm : m_spec_l06Leaf p0_0 p0_1 = some r)  :
    Calls Try.prog 86 #[.agg #[.int .i64 (p0_0), .int .i64 (p0_1)]] w0 fun e w' => e = .returned (.agg #[.int .i64 (r.1), .int .i64 (r.2.1), .int .i64 (r.2.2.1), .int .i64 (r.2.2.2)]) ∧ Chg [] w0 w' := by
  have hB : Chg [] w0 w0 := Chg.refl _ _
  have hZ := Nat.le_refl w0.heap.size
  unfold m_spec_l06Leaf at hm
  refine enterE (N := 22) Try.func86 (by rfl) Try.ntmps86 (by simp) [(0, .agg #[.int .i64 (p0_0), .int .i64 (p0_1)])] (by rfl) (by kernel_rfl) (fun a => ?_)
  refine cW_seq ?_
  refine cW_region ?_
  refine wS_box (d := 1) (T := 32) (x := .agg #[.int .i64 (p0_0), .int .i64 (p0_1)]) (by kernel_rfl) ?_
  intro b1 w2 G3 F4 hc5
  replace F4 : Cl w2 b1 32 [.int .i64 (p0_0), .int .i64 (p0_1)] := F4
  replace hB := hB.inS hc5 inNil
  replace G3 := Nat.le_trans hZ G3
  replace hZ := Nat.le_trans hZ hc5.size
  refine wS_alloc (d := 2) (T := 25) (z := .agg #[.int .i64 (0), .int .i64 (0), .int .i64 (0), .int .i64 (0)]) (by kernel_rfl) (by kernel_rfl) ?_
  intro b7 w8 G9 F10 hc11
  replace F10 : Cl w8 b7 25 [.int .i64 (0), .int .i64 (0), .int .i64 (0), .int .i64 (0)] := F10
  have D13 : Dj [b1] [b7] := Dj.of (lt1 F4.lt) (low1 G9)
  replace F4 := F4.chg hc11 notNil
  replace hB := hB.inS hc11 inNil
  replace G9 := Nat.le_trans hZ G9
  replace hZ := Nat.le_trans hZ hc11.size
  refine wS_end (by rfl) ?_
  refine eX_then ?_
  refine cW_seq ?_
  refine cW_region ?_
  refine wS_pure 1 [(5, .pointer (some ⟨b1, 0, none⟩))] (by kernel_rfl) ?_
  refine wS_load1 (d := 6) (T := 2) (ad := ⟨b1, 0, none⟩) (v := .int .i64 (p0_0)) (by kernel_rfl) vt2 ((F4).cell 0) ?_
  refine wS_pure 1 [(7, .pointer (some ⟨b1, 1, none⟩))] (by kernel_rfl) ?_
  refine wS_load1 (d := 8) (T := 2) (ad := ⟨b1, 1, none⟩) (v := .int .i64 (p0_1)) (by kernel_rfl) vt2 ((F4).cell 1) ?_
  refine wS_pure 3 [(3, .int .i64 (wr ((wr (p0_0 + p0_1)) * 4096))), (10, .int .i64 (wr ((wr (p0_0 + p0_1)) * 4096))), (9, .int .i64 (wr (p0_0 + p0_1)))] (by kernel_rfl) ?_
  refine wS_end (by rfl) ?_
  refine eX_then ?_
  refine cW_seq ?_
  refine cW_region ?_
  refine wS_pure 1 [(11, .pointer (some ⟨b1, 0, none⟩))] (by kernel_rfl) ?_
  refine wS_load1 (d := 12) (T := 2) (ad := ⟨b1, 0, none⟩) (v := .int .i64 (p0_0)) (by kernel_rfl) vt2 ((F4).cell 0) ?_
  refine wS_pure 1 [(13, .pointer (some ⟨b1, 1, none⟩))] (by kernel_rfl) ?_
  refine wS_load1 (d := 14) (T := 2) (ad := ⟨b1, 1, none⟩) (v := .int .i64 (p0_1)) (by kernel_rfl) vt2 ((F4).cell 1) ?_
  refine wS_pure 3 [(4, .int .i64 (wr ((wr (p0_0 - p0_1)) * 4096))), (16, .int .i64 (wr ((wr (p0_0 - p0_1)) * 4096))), (15, .int .i64 (wr (p0_0 - p0_1)))] (by kernel_rfl) ?_
  refine wS_end (by rfl) ?_
  refine eX_then ?_
  refine cW_seq ?_
  refine cW_region ?_
  refine wS_pure 5 [(21, .agg #[.int .i64 (wr ((wr (p0_0 + p0_1)) * 4096)), .int .i64 (wr ((wr (p0_0 + p0_1)) * 4096)), .int .i64 (wr ((wr (p0_0 - p0_1)) * 4096)), .int .i64 (wr ((wr (p0_0 - p0_1)) * 4096))]), (20, .int .i64 (wr ((wr (p0_0 - p0_1)) * 4096))), (19, .int .i64 (wr ((wr (p0_0 - p0_1)) * 4096))), (18, .int .i64 (wr ((wr (p0_0 + p0_1)) * 4096))), (17, .int .i64 (wr ((wr (p0_0 + p0_1)) * 4096)))] (by kernel_rfl) ?_
  refine wS_store (T := 25) (g := b7) (o := 0) (ad := ⟨b7, 0, none⟩) (v := .agg #[.int .i64 (wr ((wr (p0_0 + p0_1)) * 4096)), .int .i64 (wr ((wr (p0_0 + p0_1)) * 4096)), .int .i64 (wr ((wr (p0_0 - p0_1)) * 4096)), .int .i64 (wr ((wr (p0_0 - p0_1)) * 4096))]) (vs := [.int .i64 (wr ((wr (p0_0 + p0_1)) * 4096)), .int .i64 (wr ((wr (p0_0 + p0_1)) * 4096)), .int .i64 (wr ((wr (p0_0 - p0_1)) * 4096)), .int .i64 (wr ((wr (p0_0 - p0_1)) * 4096))]) (by kernel_rfl) (by rfl) sz25 (by rfl) (by rfl) F10 (by simp only [List.length_cons, List.length_nil]; omega) ?_
  intro w14 F15 hc16
  replace F4 := F4.chg hc16 (dj1 D13)
  replace hB := hB.inS hc16 (inLow (low1 G9))
  replace hZ := Nat.le_trans hZ hc16.size
  replace F15 : Cl w14 b7 25 [.int .i64 (wr ((wr (p0_0 + p0_1)) * 4096)), .int .i64 (wr ((wr (p0_0 + p0_1)) * 4096)), .int .i64 (wr ((wr (p0_0 - p0_1)) * 4096)), .int .i64 (wr ((wr (p0_0 - p0_1)) * 4096))] := F15
  clear F10
  refine wS_end (by rfl) ?_
  refine eX_then ?_
  refine cW_ret ?_
  have hq : (some ((wr ((wr (p0_0 + p0_1)) * 4096), wr ((wr (p0_0 + p0_1)) * 4096), wr ((wr (p0_0 - p0_1)) * 4096), wr ((wr (p0_0 - p0_1)) * 4096))) : Option ((Int × Int × Int × Int))) = some _ := hm
  replace hq := someE hq
  subst hq
  refine eX_ret (vs := [.agg #[.int .i64 (wr ((wr (p0_0 + p0_1)) * 4096)), .int .i64 (wr ((wr (p0_0 + p0_1)) * 4096)), .int .i64 (wr ((wr (p0_0 - p0_1)) * 4096)), .int .i64 (wr ((wr (p0_0 - p0_1)) * 4096))]]) [.cell 2 25] (by rfl) ⟨⟨⟨b7, 0, none⟩, by kernel_rfl, run_loadVarA (vs := [.int .i64 (wr ((wr (p0_0 + p0_1)) * 4096)), .int .i64 (wr ((wr (p0_0 + p0_1)) * 4096)), .int .i64 (wr ((wr (p0_0 - p0_1)) * 4096)), .int .i64 (wr ((wr (p0_0 - p0_1)) * 4096))]) vt25 (fun i u hu => by exact box_cells F15 0 hu (by rfl))⟩, trivial⟩ ?_
  exact ⟨rfl, hB⟩

set_option maxRecDepth 100000 in
/-- impl.leaf -/
theorem c_impl_leaf {w0 : World} {p0_0 : Int} {p0_1 : Int} {r : (Int × Int × Int × Int)} (hm : m_impl_leaf p0_0 p0_1 = some r)  :
    Calls Try.prog 87 #[.agg #[.int .i64 (p0_0), .int .i64 (p0_1)]] w0 fun e w' => e = .returned (.agg #[.int .i64 (r.1), .int .i64 (r.2.1), .int .i64 (r.2.2.1), .int .i64 (r.2.2.2)]) ∧ Chg [] w0 w' := by
  have hB : Chg [] w0 w0 := Chg.refl _ _
  have hZ := Nat.le_refl w0.heap.size
  unfold m_impl_leaf at hm
  refine enterE (N := 22) Try.func87 (by rfl) Try.ntmps87 (by simp) [(0, .agg #[.int .i64 (p0_0), .int .i64 (p0_1)])] (by rfl) (by kernel_rfl) (fun a => ?_)
  refine cW_seq ?_
  refine cW_region ?_
  refine wS_box (d := 1) (T := 32) (x := .agg #[.int .i64 (p0_0), .int .i64 (p0_1)]) (by kernel_rfl) ?_
  intro b1 w2 G3 F4 hc5
  replace F4 : Cl w2 b1 32 [.int .i64 (p0_0), .int .i64 (p0_1)] := F4
  replace hB := hB.inS hc5 inNil
  replace G3 := Nat.le_trans hZ G3
  replace hZ := Nat.le_trans hZ hc5.size
  refine wS_alloc (d := 2) (T := 25) (z := .agg #[.int .i64 (0), .int .i64 (0), .int .i64 (0), .int .i64 (0)]) (by kernel_rfl) (by kernel_rfl) ?_
  intro b7 w8 G9 F10 hc11
  replace F10 : Cl w8 b7 25 [.int .i64 (0), .int .i64 (0), .int .i64 (0), .int .i64 (0)] := F10
  have D13 : Dj [b1] [b7] := Dj.of (lt1 F4.lt) (low1 G9)
  replace F4 := F4.chg hc11 notNil
  replace hB := hB.inS hc11 inNil
  replace G9 := Nat.le_trans hZ G9
  replace hZ := Nat.le_trans hZ hc11.size
  refine wS_end (by rfl) ?_
  refine eX_then ?_
  refine cW_seq ?_
  refine cW_drawnTail [] 13 (by kernel_rfl) (by kernel_rfl) (fun w18 hc19 => ?_)
  replace F4 := F4.chg hc19 notNil
  replace F10 := F10.chg hc19 notNil
  replace hB := hB.inS hc19 inNil
  replace hZ := Nat.le_trans hZ hc19.size
  have hS := Chg.refl [] w18
  have Z20 := F4
  have Z21 := F10
  refine wH_take [0] [0] [(5, .pointer (some ⟨b1, 0, none⟩))] (by kernel_rfl) (qT (qT qZ)) (by kernel_rfl) ?_
  refine wH_load1 (i := 1) (d := 6) (T := 2) (ad := ⟨b1, 0, none⟩) (v := .int .i64 (p0_0)) (by kernel_rfl) (qT (qT qZ)) (by kernel_rfl) (by kernel_rfl) vt2 (fun W hW => (Z20.chg hW notNil).cell 0) ?_
  refine wH_take [2] [2, 1, 0] [(7, .pointer (some ⟨b1, 1, none⟩))] (by kernel_rfl) (qT (qT qZ)) (by kernel_rfl) ?_
  refine wH_load1 (i := 3) (d := 8) (T := 2) (ad := ⟨b1, 1, none⟩) (v := .int .i64 (p0_1)) (by kernel_rfl) (qT (qT qZ)) (by kernel_rfl) (by kernel_rfl) vt2 (fun W hW => (Z20.chg hW notNil).cell 1) ?_
  refine wH_take [4, 5, 6] [6, 5, 4, 3, 2, 1, 0] [(11, .pointer (some ⟨b1, 0, none⟩)), (10, .int .i64 (wr ((wr (p0_0 + p0_1)) * 4096))), (9, .int .i64 (wr (p0_0 + p0_1)))] (by kernel_rfl) (qT (qT qZ)) (by kernel_rfl) ?_
  refine wH_load1 (i := 7) (d := 12) (T := 2) (ad := ⟨b1, 0, none⟩) (v := .int .i64 (p0_0)) (by kernel_rfl) (qT (qT qZ)) (by kernel_rfl) (by kernel_rfl) vt2 (fun W hW => (Z20.chg hW notNil).cell 0) ?_
  refine wH_take [8] [8, 7, 6, 5, 4, 3, 2, 1, 0] [(13, .pointer (some ⟨b1, 1, none⟩))] (by kernel_rfl) (qT (qT qZ)) (by kernel_rfl) ?_
  refine wH_load1 (i := 9) (d := 14) (T := 2) (ad := ⟨b1, 1, none⟩) (v := .int .i64 (p0_1)) (by kernel_rfl) (qT (qT qZ)) (by kernel_rfl) (by kernel_rfl) vt2 (fun W hW => (Z20.chg hW notNil).cell 1) ?_
  refine wH_take [10, 11, 12] [12, 11, 10, 9, 8, 7, 6, 5, 4, 3, 2, 1, 0] [(3, .int .i64 (wr ((wr (p0_0 + p0_1)) * 4096))), (16, .int .i64 (wr ((wr (p0_0 - p0_1)) * 4096))), (15, .int .i64 (wr (p0_0 - p0_1)))] (by kernel_rfl) (qT (qT qZ)) (by kernel_rfl) ?_
  refine wH_done (by kernel_rfl) ?_
  refine eX_tail ?_
  refine wS_pure 1 [(4, .int .i64 (wr ((wr (p0_0 - p0_1)) * 4096)))] (by kernel_rfl) ?_
  refine wS_end (by rfl) ?_
  refine eX_then ?_
  refine cW_seq ?_
  refine cW_region ?_
  refine wS_pure 5 [(21, .agg #[.int .i64 (wr ((wr (p0_0 + p0_1)) * 4096)), .int .i64 (wr ((wr (p0_0 + p0_1)) * 4096)), .int .i64 (wr ((wr (p0_0 - p0_1)) * 4096)), .int .i64 (wr ((wr (p0_0 - p0_1)) * 4096))]), (20, .int .i64 (wr ((wr (p0_0 - p0_1)) * 4096))), (19, .int .i64 (wr ((wr (p0_0 - p0_1)) * 4096))), (18, .int .i64 (wr ((wr (p0_0 + p0_1)) * 4096))), (17, .int .i64 (wr ((wr (p0_0 + p0_1)) * 4096)))] (by kernel_rfl) ?_
  refine wS_store (T := 25) (g := b7) (o := 0) (ad := ⟨b7, 0, none⟩) (v := .agg #[.int .i64 (wr ((wr (p0_0 + p0_1)) * 4096)), .int .i64 (wr ((wr (p0_0 + p0_1)) * 4096)), .int .i64 (wr ((wr (p0_0 - p0_1)) * 4096)), .int .i64 (wr ((wr (p0_0 - p0_1)) * 4096))]) (vs := [.int .i64 (wr ((wr (p0_0 + p0_1)) * 4096)), .int .i64 (wr ((wr (p0_0 + p0_1)) * 4096)), .int .i64 (wr ((wr (p0_0 - p0_1)) * 4096)), .int .i64 (wr ((wr (p0_0 - p0_1)) * 4096))]) (by kernel_rfl) (by rfl) sz25 (by rfl) (by rfl) F10 (by simp only [List.length_cons, List.length_nil]; omega) ?_
  intro w22 F23 hc24
  replace F4 := F4.chg hc24 (dj1 D13)
  replace hB := hB.inS hc24 (inLow (low1 G9))
  replace hZ := Nat.le_trans hZ hc24.size
  replace F23 : Cl w22 b7 25 [.int .i64 (wr ((wr (p0_0 + p0_1)) * 4096)), .int .i64 (wr ((wr (p0_0 + p0_1)) * 4096)), .int .i64 (wr ((wr (p0_0 - p0_1)) * 4096)), .int .i64 (wr ((wr (p0_0 - p0_1)) * 4096))] := F23
  clear F10
  refine wS_end (by rfl) ?_
  refine eX_then ?_
  refine cW_ret ?_
  have hq : (some ((wr ((wr (p0_0 + p0_1)) * 4096), wr ((wr (p0_0 + p0_1)) * 4096), wr ((wr (p0_0 - p0_1)) * 4096), wr ((wr (p0_0 - p0_1)) * 4096))) : Option ((Int × Int × Int × Int))) = some _ := hm
  replace hq := someE hq
  subst hq
  refine eX_ret (vs := [.agg #[.int .i64 (wr ((wr (p0_0 + p0_1)) * 4096)), .int .i64 (wr ((wr (p0_0 + p0_1)) * 4096)), .int .i64 (wr ((wr (p0_0 - p0_1)) * 4096)), .int .i64 (wr ((wr (p0_0 - p0_1)) * 4096))]]) [.cell 2 25] (by rfl) ⟨⟨⟨b7, 0, none⟩, by kernel_rfl, run_loadVarA (vs := [.int .i64 (wr ((wr (p0_0 + p0_1)) * 4096)), .int .i64 (wr ((wr (p0_0 + p0_1)) * 4096)), .int .i64 (wr ((wr (p0_0 - p0_1)) * 4096)), .int .i64 (wr ((wr (p0_0 - p0_1)) * 4096))]) vt25 (fun i u hu => by exact box_cells F23 0 hu (by rfl))⟩, trivial⟩ ?_
  exact ⟨rfl, hB⟩

set_option maxRecDepth 100000 in
/-- spec.l06Grow -/
theorem c_spec_l06Grow {w0 : World} {p0_0 : Int} {p0_1 : Int} {p0_2 : Int} {p0_3 : Int} {p1 : Int} {r : (Int × Int × Int × Int)} (hm : m_spec_l06Grow p0_0 p0_1 p0_2 p0_3 p1 = some r)  :
    Calls Try.prog 89 #[.agg #[.int .i64 (p0_0), .int .i64 (p0_1), .int .i64 (p0_2), .int .i64 (p0_3)], .int .i64 (p1)] w0 fun e w' => e = .returned (.agg #[.int .i64 (r.1), .int .i64 (r.2.1), .int .i64 (r.2.2.1), .int .i64 (r.2.2.2)]) ∧ Chg [] w0 w' := by
  have hB : Chg [] w0 w0 := Chg.refl _ _
  have hZ := Nat.le_refl w0.heap.size
  unfold m_spec_l06Grow at hm
  refine enterE (N := 22) Try.func89 (by rfl) Try.ntmps89 (by simp) [(0, .agg #[.int .i64 (p0_0), .int .i64 (p0_1), .int .i64 (p0_2), .int .i64 (p0_3)]), (1, .int .i64 (p1))] (by rfl) (by kernel_rfl) (fun a => ?_)
  refine cW_seq ?_
  refine cW_region ?_
  refine wS_box (d := 2) (T := 25) (x := .agg #[.int .i64 (p0_0), .int .i64 (p0_1), .int .i64 (p0_2), .int .i64 (p0_3)]) (by kernel_rfl) ?_
  intro b1 w2 G3 F4 hc5
  replace F4 : Cl w2 b1 25 [.int .i64 (p0_0), .int .i64 (p0_1), .int .i64 (p0_2), .int .i64 (p0_3)] := F4
  replace hB := hB.inS hc5 inNil
  replace G3 := Nat.le_trans hZ G3
  replace hZ := Nat.le_trans hZ hc5.size
  refine wS_alloc (d := 4) (T := 25) (z := .agg #[.int .i64 (0), .int .i64 (0), .int .i64 (0), .int .i64 (0)]) (by kernel_rfl) (by kernel_rfl) ?_
  intro b7 w8 G9 F10 hc11
  replace F10 : Cl w8 b7 25 [.int .i64 (0), .int .i64 (0), .int .i64 (0), .int .i64 (0)] := F10
  have D13 : Dj [b1] [b7] := Dj.of (lt1 F4.lt) (low1 G9)
  replace F4 := F4.chg hc11 notNil
  replace hB := hB.inS hc11 inNil
  replace G9 := Nat.le_trans hZ G9
  replace hZ := Nat.le_trans hZ hc11.size
  refine wS_end (by rfl) ?_
  refine eX_then ?_
  refine cW_seq ?_
  refine cW_region ?_
  refine wS_pure 1 [(5, .pointer (some ⟨b1, 0, none⟩))] (by kernel_rfl) ?_
  refine wS_load1 (d := 6) (T := 2) (ad := ⟨b1, 0, none⟩) (v := .int .i64 (p0_0)) (by kernel_rfl) vt2 ((F4).cell 0) ?_
  refine wS_pure 3 [(9, .pointer (some ⟨b1, 1, none⟩)), (8, .int .i64 (wr (p0_0 - p1))), (7, .int .i64 (p1))] (by kernel_rfl) ?_
  refine wS_load1 (d := 10) (T := 2) (ad := ⟨b1, 1, none⟩) (v := .int .i64 (p0_1)) (by kernel_rfl) vt2 ((F4).cell 1) ?_
  refine wS_pure 3 [(13, .pointer (some ⟨b1, 2, none⟩)), (12, .int .i64 (wr (p0_1 + p1))), (11, .int .i64 (p1))] (by kernel_rfl) ?_
  refine wS_load1 (d := 14) (T := 2) (ad := ⟨b1, 2, none⟩) (v := .int .i64 (p0_2)) (by kernel_rfl) vt2 ((F4).cell 2) ?_
  refine wS_pure 3 [(17, .pointer (some ⟨b1, 3, none⟩)), (16, .int .i64 (wr (p0_2 - p1))), (15, .int .i64 (p1))] (by kernel_rfl) ?_
  refine wS_load1 (d := 18) (T := 2) (ad := ⟨b1, 3, none⟩) (v := .int .i64 (p0_3)) (by kernel_rfl) vt2 ((F4).cell 3) ?_
  refine wS_pure 3 [(21, .agg #[.int .i64 (wr (p0_0 - p1)), .int .i64 (wr (p0_1 + p1)), .int .i64 (wr (p0_2 - p1)), .int .i64 (wr (p0_3 + p1))]), (20, .int .i64 (wr (p0_3 + p1))), (19, .int .i64 (p1))] (by kernel_rfl) ?_
  refine wS_store (T := 25) (g := b7) (o := 0) (ad := ⟨b7, 0, none⟩) (v := .agg #[.int .i64 (wr (p0_0 - p1)), .int .i64 (wr (p0_1 + p1)), .int .i64 (wr (p0_2 - p1)), .int .i64 (wr (p0_3 + p1))]) (vs := [.int .i64 (wr (p0_0 - p1)), .int .i64 (wr (p0_1 + p1)), .int .i64 (wr (p0_2 - p1)), .int .i64 (wr (p0_3 + p1))]) (by kernel_rfl) (by rfl) sz25 (by rfl) (by rfl) F10 (by simp only [List.length_cons, List.length_nil]; omega) ?_
  intro w14 F15 hc16
  replace F4 := F4.chg hc16 (dj1 D13)
  replace hB := hB.inS hc16 (inLow (low1 G9))
  replace hZ := Nat.le_trans hZ hc16.size
  replace F15 : Cl w14 b7 25 [.int .i64 (wr (p0_0 - p1)), .int .i64 (wr (p0_1 + p1)), .int .i64 (wr (p0_2 - p1)), .int .i64 (wr (p0_3 + p1))] := F15
  clear F10
  refine wS_end (by rfl) ?_
  refine eX_then ?_
  refine cW_ret ?_
  have hq : (some ((wr (p0_0 - p1), wr (p0_1 + p1), wr (p0_2 - p1), wr (p0_3 + p1))) : Option ((Int × Int × Int × Int))) = some _ := hm
  replace hq := someE hq
  subst hq
  refine eX_ret (vs := [.agg #[.int .i64 (wr (p0_0 - p1)), .int .i64 (wr (p0_1 + p1)), .int .i64 (wr (p0_2 - p1)), .int .i64 (wr (p0_3 + p1))]]) [.cell 4 25] (by rfl) ⟨⟨⟨b7, 0, none⟩, by kernel_rfl, run_loadVarA (vs := [.int .i64 (wr (p0_0 - p1)), .int .i64 (wr (p0_1 + p1)), .int .i64 (wr (p0_2 - p1)), .int .i64 (wr (p0_3 + p1))]) vt25 (fun i u hu => by exact box_cells F15 0 hu (by rfl))⟩, trivial⟩ ?_
  exact ⟨rfl, hB⟩

set_option maxRecDepth 100000 in
/-- impl.Region).grown -/
theorem c_impl_Region_grown {w0 : World} {p0_0 : Int} {p0_1 : Int} {p0_2 : Int} {p0_3 : Int} {p1 : Int} {r : (Int × Int × Int × Int)} (hm : m_impl_Region_grown p0_0 p0_1 p0_2 p0_3 p1 = some r)  :
    Calls Try.prog 90 #[.agg #[.int .i64 (p0_0), .int .i64 (p0_1), .int .i64 (p0_2), .int .i64 (p0_3)], .int .i64 (p1)] w0 fun e w' => e = .returned (.agg #[.int .i64 (r.1), .int .i64 (r.2.1), .int .i64 (r.2.2.1), .int .i64 (r.2.2.2)]) ∧ Chg [] w0 w' := by
  have hB : Chg [] w0 w0 := Chg.refl _ _
  have hZ := Nat.le_refl w0.heap.size
  unfold m_impl_Region_grown at hm
  refine enterE (N := 22) Try.func90 (by rfl) Try.ntmps90 (by simp) [(0, .agg #[.int .i64 (p0_0), .int .i64 (p0_1), .int .i64 (p0_2), .int .i64 (p0_3)]), (1, .int .i64 (p1))] (by rfl) (by kernel_rfl) (fun a => ?_)
  refine cW_seq ?_
  refine cW_region ?_
  refine wS_box (d := 2) (T := 25) (x := .agg #[.int .i64 (p0_0), .int .i64 (p0_1), .int .i64 (p0_2), .int .i64 (p0_3)]) (by kernel_rfl) ?_
  intro b1 w2 G3 F4 hc5
  replace F4 : Cl w2 b1 25 [.int .i64 (p0_0), .int .i64 (p0_1), .int .i64 (p0_2), .int .i64 (p0_3)] := F4
  replace hB := hB.inS hc5 inNil
  replace G3 := Nat.le_trans hZ G3
  replace hZ := Nat.le_trans hZ hc5.size
  refine wS_alloc (d := 4) (T := 25) (z := .agg #[.int .i64 (0), .int .i64 (0), .int .i64 (0), .int .i64 (0)]) (by kernel_rfl) (by kernel_rfl) ?_
  intro b7 w8 G9 F10 hc11
  replace F10 : Cl w8 b7 25 [.int .i64 (0), .int .i64 (0), .int .i64 (0), .int .i64 (0)] := F10
  have D13 : Dj [b1] [b7] := Dj.of (lt1 F4.lt) (low1 G9)
  replace F4 := F4.chg hc11 notNil
  replace hB := hB.inS hc11 inNil
  replace G9 := Nat.le_trans hZ G9
  replace hZ := Nat.le_trans hZ hc11.size
  refine wS_end (by rfl) ?_
  refine eX_then ?_
  refine cW_seq ?_
  refine cW_region ?_
  refine wS_pure 1 [(5, .pointer (some ⟨b1, 0, none⟩))] (by kernel_rfl) ?_
  refine wS_load1 (d := 6) (T := 2) (ad := ⟨b1, 0, none⟩) (v := .int .i64 (p0_0)) (by kernel_rfl) vt2 ((F4).cell 0) ?_
  refine wS_pure 3 [(9, .pointer (some ⟨b1, 1, none⟩)), (8, .int .i64 (wr (p0_0 - p1))), (7, .int .i64 (p1))] (by kernel_rfl) ?_
  refine wS_load1 (d := 10) (T := 2) (ad := ⟨b1, 1, none⟩) (v := .int .i64 (p0_1)) (by kernel_rfl) vt2 ((F4).cell 1) ?_
  refine wS_pure 3 [(13, .pointer (some ⟨b1, 2, none⟩)), (12, .int .i64 (wr (p0_1 + p1))), (11, .int .i64 (p1))] (by kernel_rfl) ?_
  refine wS_load1 (d := 14) (T := 2) (ad := ⟨b1, 2, none⟩) (v := .int .i64 (p0_2)) (by kernel_rfl) vt2 ((F4).cell 2) ?_
  refine wS_pure 3 [(17, .pointer (some ⟨b1, 3, none⟩)), (16, .int .i64 (wr (p0_2 - p1))), (15, .int .i64 (p1))] (by kernel_rfl) ?_
  refine wS_load1 (d := 18) (T := 2) (ad := ⟨b1, 3, none⟩) (v := .int .i64 (p0_3)) (by kernel_rfl) vt2 ((F4).cell 3) ?_
  refine wS_pure 3 [(21, .agg #[.int .i64 (wr (p0_0 - p1)), .int .i64 (wr (p0_1 + p1)), .int .i64 (wr (p0_2 - p1)), .int .i64 (wr (p0_3 + p1))]), (20, .int .i64 (wr (p0_3 + p1))), (19, .int .i64 (p1))] (by kernel_rfl) ?_
  refine wS_store (T := 25) (g := b7) (o := 0) (ad := ⟨b7, 0, none⟩) (v := .agg #[.int .i64 (wr (p0_0 - p1)), .int .i64 (wr (p0_1 + p1)), .int .i64 (wr (p0_2 - p1)), .int .i64 (wr (p0_3 + p1))]) (vs := [.int .i64 (wr (p0_0 - p1)), .int .i64 (wr (p0_1 + p1)), .int .i64 (wr (p0_2 - p1)), .int .i64 (wr (p0_3 + p1))]) (by kernel_rfl) (by rfl) sz25 (by rfl) (by rfl) F10 (by simp only [List.length_cons, List.length_nil]; omega) ?_
  intro w14 F15 hc16
  replace F4 := F4.chg hc16 (dj1 D13)
  replace hB := hB.inS hc16 (inLow (low1 G9))
  replace hZ := Nat.le_trans hZ hc16.size
  replace F15 : Cl w14 b7 25 [.int .i64 (wr (p0_0 - p1)), .int .i64 (wr (p0_1 + p1)), .int .i64 (wr (p0_2 - p1)), .int .i64 (wr (p0_3 + p1))] := F15
  clear F10
  refine wS_end (by rfl) ?_
  refine eX_then ?_
  refine cW_ret ?_
  have hq : (some ((wr (p0_0 - p1), wr (p0_1 + p1), wr (p0_2 - p1), wr (p0_3 + p1))) : Option ((Int × Int × Int × Int))) = some _ := hm
  replace hq := someE hq
  subst hq
  refine eX_ret (vs := [.agg #[.int .i64 (wr (p0_0 - p1)), .int .i64 (wr (p0_1 + p1)), .int .i64 (wr (p0_2 - p1)), .int .i64 (wr (p0_3 + p1))]]) [.cell 4 25] (by rfl) ⟨⟨⟨b7, 0, none⟩, by kernel_rfl, run_loadVarA (vs := [.int .i64 (wr (p0_0 - p1)), .int .i64 (wr (p0_1 + p1)), .int .i64 (wr (p0_2 - p1)), .int .i64 (wr (p0_3 + p1))]) vt25 (fun i u hu => by exact box_cells F15 0 hu (by rfl))⟩, trivial⟩ ?_
  exact ⟨rfl, hB⟩

set_option maxRecDepth 100000 in
/-- spec.l00Min -/
theorem c_spec_l00Min {w0 : World} {p0 : Int} {p1 : Int} {r : (Int)} (hm : m_spec_l00Min p0 p1 = some r)  :
    Calls Try.prog 104 #[.int .i64 (p0), .int .i64 (p1)] w0 fun e w' => e = .returned (.int .i64 (r)) ∧ Chg [] w0 w' := by
  have hB : Chg [] w0 w0 := Chg.refl _ _
  have hZ := Nat.le_refl w0.heap.size
  unfold m_spec_l00Min at hm
  refine enterE (N := 10) Try.func104 (by rfl) Try.ntmps104 (by simp) [(0, .int .i64 (p0)), (1, .int .i64 (p1))] (by rfl) (by kernel_rfl) (fun a => ?_)
  refine cW_seq ?_
  refine cW_region ?_
  refine wS_pure 1 [(4, .int .i64 (0))] (by kernel_rfl) ?_
  refine wS_end (by rfl) ?_
  refine eX_then ?_
  refine cW_seq ?_
  refine cW_seq ?_
  refine cW_region ?_
  refine wS_pure 3 [(7, .bool (decide (p0 < p1))), (6, .int .i64 (p1)), (5, .int .i64 (p0))] (by kernel_rfl) ?_
  refine wS_end (by rfl) ?_
  refine eX_then ?_
  refine cW_cond (t := decide (p0 < p1)) (by kernel_rfl) (fun hb1 => ?_) (fun hb1 => ?_)
  · have hm := condT hb1 hm
    refine cW_seq ?_
    refine cW_region ?_
    refine wS_pure 2 [(4, .int .i64 (p0)), (8, .int .i64 (p0))] (by kernel_rfl) ?_
    refine wS_end (by rfl) ?_
    refine eX_then ?_
    refine cW_ret ?_
    refine eX_then_ret ?_
    have hq : (some p0 : Option ((Int))) = some _ := hm
    replace hq := someE hq
    subst hq
    refine eX_ret (vs := [.int .i64 (p0)]) [.tmp 4] (by rfl) ⟨by (show lkE _ _ _ = _); kernel_rfl, trivial⟩ ?_
    exact ⟨rfl, hB⟩
  · have hm := condF hb1 hm
    refine cW_skip ?_
    refine eX_then ?_
    refine cW_seq ?_
    refine cW_region ?_
    refine wS_pure 2 [(4, .int .i64 (p1)), (9, .int .i64 (p1))] (by kernel_rfl) ?_
    refine wS_end (by rfl) ?_
    refine eX_then ?_
    refine cW_ret ?_
    have hq : (some p1 : Option ((Int))) = some _ := hm
    replace hq := someE hq
    subst hq
    refine eX_ret (vs := [.int .i64 (p1)]) [.tmp 4] (by rfl) ⟨by (show lkE _ _ _ = _); kernel_rfl, trivial⟩ ?_
    exact ⟨rfl, hB⟩

set_option maxRecDepth 100000 in
/-- spec.l06Meet -/
theorem c_spec_l06Meet {w0 : World} {p0_0 : Int} {p0_1 : Int} {p0_2 : Int} {p0_3 : Int} {p1_0 : Int} {p1_1 : Int} {p1_2 : Int} {p1_3 : Int} {r : (Int × Int × Int × Int)} (hm : m_spec_l06Meet p0_0 p0_1 p0_2 p0_3 p1_0 p1_1 p1_2 p1_3 = some r)  :
    Calls Try.prog 91 #[.agg #[.int .i64 (p0_0), .int .i64 (p0_1), .int .i64 (p0_2), .int .i64 (p0_3)], .agg #[.int .i64 (p1_0), .int .i64 (p1_1), .int .i64 (p1_2), .int .i64 (p1_3)]] w0 fun e w' => e = .returned (.agg #[.int .i64 (r.1), .int .i64 (r.2.1), .int .i64 (r.2.2.1), .int .i64 (r.2.2.2)]) ∧ Chg [] w0 w' := by
  have hB : Chg [] w0 w0 := Chg.refl _ _
  have hZ := Nat.le_refl w0.heap.size
  unfold m_spec_l06Meet at hm
  refine enterE (N := 26) Try.func91 (by rfl) Try.ntmps91 (by simp) [(0, .agg #[.int .i64 (p0_0), .int .i64 (p0_1), .int .i64 (p0_2), .int .i64 (p0_3)]), (1, .agg #[.int .i64 (p1_0), .int .i64 (p1_1), .int .i64 (p1_2), .int .i64 (p1_3)])] (by rfl) (by kernel_rfl) (fun a => ?_)
  refine cW_seq ?_
  refine cW_region ?_
  refine wS_box (d := 2) (T := 25) (x := .agg #[.int .i64 (p0_0), .int .i64 (p0_1), .int .i64 (p0_2), .int .i64 (p0_3)]) (by kernel_rfl) ?_
  intro b1 w2 G3 F4 hc5
  replace F4 : Cl w2 b1 25 [.int .i64 (p0_0), .int .i64 (p0_1), .int .i64 (p0_2), .int .i64 (p0_3)] := F4
  replace hB := hB.inS hc5 inNil
  replace G3 := Nat.le_trans hZ G3
  replace hZ := Nat.le_trans hZ hc5.size
  refine wS_box (d := 3) (T := 25) (x := .agg #[.int .i64 (p1_0), .int .i64 (p1_1), .int .i64 (p1_2), .int .i64 (p1_3)]) (by kernel_rfl) ?_
  intro b7 w8 G9 F10 hc11
  replace F10 : Cl w8 b7 25 [.int .i64 (p1_0), .int .i64 (p1_1), .int .i64 (p1_2), .int .i64 (p1_3)] := F10
  have D13 : Dj [b1] [b7] := Dj.of (lt1 F4.lt) (low1 G9)
  replace F4 := F4.chg hc11 notNil
  replace hB := hB.inS hc11 inNil
  replace G9 := Nat.le_trans hZ G9
  replace hZ := Nat.le_trans hZ hc11.size
  refine wS_alloc (d := 4) (T := 25) (z := .agg #[.int .i64 (0), .int .i64 (0), .int .i64 (0), .int .i64 (0)]) (by kernel_rfl) (by kernel_rfl) ?_
  intro b14 w15 G16 F17 hc18
  replace F17 : Cl w15 b14 25 [.int .i64 (0), .int .i64 (0), .int .i64 (0), .int .i64 (0)] := F17
  have D20 : Dj [b1] [b14] := Dj.of (lt1 F4.lt) (low1 G16)
  have D21 : Dj [b7] [b14] := Dj.of (lt1 F10.lt) (low1 G16)
  replace F4 := F4.chg hc18 notNil
  replace F10 := F10.chg hc18 notNil
  replace hB := hB.inS hc18 inNil
  replace G16 := Nat.le_trans hZ G16
  replace hZ := Nat.le_trans hZ hc18.size
  refine wS_end (by rfl) ?_
  refine eX_then ?_
  refine cW_seq ?_
  refine cW_drawnTail [] 19 (by kernel_rfl) (by kernel_rfl) (fun w46 hc47 => ?_)
  replace F4 := F4.chg hc47 notNil
  replace F10 := F10.chg hc47 notNil
  replace F17 := F17.chg hc47 notNil
  replace hB := hB.inS hc47 inNil
  replace hZ := Nat.le_trans hZ hc47.size
  have hS := Chg.refl [] w46
  have Z48 := F4
  have Z49 := F10
  have Z50 := F17
  refine wH_take [0] [0] [(5, .pointer (some ⟨b1, 0, none⟩))] (by kernel_rfl) (qT (qT qZ)) (by kernel_rfl) ?_
  refine wH_load1 (i := 1) (d := 6) (T := 2) (ad := ⟨b1, 0, none⟩) (v := .int .i64 (p0_0)) (by kernel_rfl) (qT (qT qZ)) (by kernel_rfl) (by kernel_rfl) vt2 (fun W hW => (Z48.chg hW notNil).cell 0) ?_
  refine wH_take [2] [2, 1, 0] [(7, .pointer (some ⟨b7, 0, none⟩))] (by kernel_rfl) (qT (qT qZ)) (by kernel_rfl) ?_
  refine wH_load1 (i := 3) (d := 8) (T := 2) (ad := ⟨b7, 0, none⟩) (v := .int .i64 (p1_0)) (by kernel_rfl) (qT (qT qZ)) (by kernel_rfl) (by kernel_rfl) vt2 (fun W hW => (Z49.chg hW notNil).cell 0) ?_
  refine wH_take [5] [5, 3, 2, 1, 0] [(10, .pointer (some ⟨b1, 1, none⟩))] (by kernel_rfl) (qT (qT qZ)) (by kernel_rfl) ?_
  refine wH_load1 (i := 6) (d := 11) (T := 2) (ad := ⟨b1, 1, none⟩) (v := .int .i64 (p0_1)) (by kernel_rfl) (qT (qT qZ)) (by kernel_rfl) (by kernel_rfl) vt2 (fun W hW => (Z48.chg hW notNil).cell 1) ?_
  refine wH_take [7] [7, 6, 5, 3, 2, 1, 0] [(12, .pointer (some ⟨b7, 1, none⟩))] (by kernel_rfl) (qT (qT qZ)) (by kernel_rfl) ?_
  refine wH_load1 (i := 8) (d := 13) (T := 2) (ad := ⟨b7, 1, none⟩) (v := .int .i64 (p1_1)) (by kernel_rfl) (qT (qT qZ)) (by kernel_rfl) (by kernel_rfl) vt2 (fun W hW => (Z49.chg hW notNil).cell 1) ?_
  refine wH_take [10] [10, 8, 7, 6, 5, 3, 2, 1, 0] [(15, .pointer (some ⟨b1, 2, none⟩))] (by kernel_rfl) (qT (qT qZ)) (by kernel_rfl) ?_
  refine wH_load1 (i := 11) (d := 16) (T := 2) (ad := ⟨b1, 2, none⟩) (v := .int .i64 (p0_2)) (by kernel_rfl) (qT (qT qZ)) (by kernel_rfl) (by kernel_rfl) vt2 (fun W hW => (Z48.chg hW notNil).cell 2) ?_
  refine wH_take [12] [12, 11, 10, 8, 7, 6, 5, 3, 2, 1, 0] [(17, .pointer (some ⟨b7, 2, none⟩))] (by kernel_rfl) (qT (qT qZ)) (by kernel_rfl) ?_
  refine wH_load1 (i := 13) (d := 18) (T := 2) (ad := ⟨b7, 2, none⟩) (v := .int .i64 (p1_2)) (by kernel_rfl) (qT (qT qZ)) (by kernel_rfl) (by kernel_rfl) vt2 (fun W hW => (Z49.chg hW notNil).cell 2) ?_
  refine wH_take [15] [15, 13, 12, 11, 10, 8, 7, 6, 5, 3, 2, 1, 0] [(20, .pointer (some ⟨b1, 3, none⟩))] (by kernel_rfl) (qT (qT qZ)) (by kernel_rfl) ?_
  refine wH_load1 (i := 16) (d := 21) (T := 2) (ad := ⟨b1, 3, none⟩) (v := .int .i64 (p0_3)) (by kernel_rfl) (qT (qT qZ)) (by kernel_rfl) (by kernel_rfl) vt2 (fun W hW => (Z48.chg hW notNil).cell 3) ?_
  refine wH_take [17] [17, 16, 15, 13, 12, 11, 10, 8, 7, 6, 5, 3, 2, 1, 0] [(22, .pointer (some ⟨b7, 3, none⟩))] (by kernel_rfl) (qT (qT qZ)) (by kernel_rfl) ?_
  refine wH_load1 (i := 18) (d := 23) (T := 2) (ad := ⟨b7, 3, none⟩) (v := .int .i64 (p1_3)) (by kernel_rfl) (qT (qT qZ)) (by kernel_rfl) (by kernel_rfl) vt2 (fun W hW => (Z49.chg hW notNil).cell 3) ?_
  refine wH_all [4] (by rfl) (by kernel_rfl) (by simp) ⟨⟨by kernel_rfl, ?_⟩, trivial⟩
  obtain ⟨y51, hy52, hm⟩ := bindE hm
  refine wS_calls (d := 9) (f := 105) (vs := [.int .i64 (p0_0), .int .i64 (p1_0)]) (by kernel_rfl) ent105 (c_spec_l00Max hy52) ?_
  rintro _ w53 ⟨rfl, hc54⟩
  replace F4 := F4.chg hc54 notNil
  replace F10 := F10.chg hc54 notNil
  replace F17 := F17.chg hc54 notNil
  replace hB := hB.inS hc54 inNil
  have hSz := hS
  replace hS := hS.inS hc54 inNil
  replace hZ := Nat.le_trans hZ hc54.size
  refine ⟨.int .i64 (y51), rfl, ?_⟩
  refine wS_end (by kernel_rfl) ?_
  refine eX_KH hS ?_
  refine wH_all [9] (by rfl) (by kernel_rfl) (by simp) ⟨⟨by kernel_rfl, ?_⟩, trivial⟩
  obtain ⟨y55, hy56, hm⟩ := bindE hm
  refine wS_calls (d := 14) (f := 104) (vs := [.int .i64 (p0_1), .int .i64 (p1_1)]) (by kernel_rfl) ent104 (c_spec_l00Min hy56) ?_
  rintro _ w57 ⟨rfl, hc58⟩
  replace F4 := F4.chg hc58 notNil
  replace F10 := F10.chg hc58 notNil
  replace F17 := F17.chg hc58 notNil
  replace hB := hB.inS hc58 inNil
  have hSz := hS
  replace hS := hS.inS hc58 inNil
  replace hZ := Nat.le_trans hZ hc58.size
  refine ⟨.int .i64 (y55), rfl, ?_⟩
  refine wS_end (by kernel_rfl) ?_
  refine eX_KH hS ?_
  refine wH_all [14] (by rfl) (by kernel_rfl) (by simp) ⟨⟨by kernel_rfl, ?_⟩, trivial⟩
  obtain ⟨y59, hy60, hm⟩ := bindE hm
  refine wS_calls (d := 19) (f := 105) (vs := [.int .i64 (p0_2), .int .i64 (p1_2)]) (by kernel_rfl) ent105 (c_spec_l00Max hy60) ?_
  rintro _ w61 ⟨rfl, hc62⟩
  replace F4 := F4.chg hc62 notNil
  replace F10 := F10.chg hc62 notNil
  replace F17 := F17.chg hc62 notNil
  replace hB := hB.inS hc62 inNil
  have hSz := hS
  replace hS := hS.inS hc62 inNil
  replace hZ := Nat.le_trans hZ hc62.size
  refine ⟨.int .i64 (y59), rfl, ?_⟩
  refine wS_end (by kernel_rfl) ?_
  refine eX_KH hS ?_
  refine wH_done (by kernel_rfl) ?_
  refine eX_tail ?_
  obtain ⟨y63, hy64, hm⟩ := bindE hm
  refine wS_calls (d := 24) (f := 104) (vs := [.int .i64 (p0_3), .int .i64 (p1_3)]) (by kernel_rfl) ent104 (c_spec_l00Min hy64) ?_
  rintro _ w65 ⟨rfl, hc66⟩
  replace F4 := F4.chg hc66 notNil
  replace F10 := F10.chg hc66 notNil
  replace F17 := F17.chg hc66 notNil
  replace hB := hB.inS hc66 inNil
  replace hZ := Nat.le_trans hZ hc66.size
  refine ⟨.int .i64 (y63), rfl, ?_⟩
  refine wS_pure 1 [(25, .agg #[.int .i64 (y51), .int .i64 (y55), .int .i64 (y59), .int .i64 (y63)])] (by kernel_rfl) ?_
  refine wS_store (T := 25) (g := b14) (o := 0) (ad := ⟨b14, 0, none⟩) (v := .agg #[.int .i64 (y51), .int .i64 (y55), .int .i64 (y59), .int .i64 (y63)]) (vs := [.int .i64 (y51), .int .i64 (y55), .int .i64 (y59), .int .i64 (y63)]) (by kernel_rfl) (by rfl) sz25 (by rfl) (by rfl) F17 (by simp only [List.length_cons, List.length_nil]; omega) ?_
  intro w67 F68 hc69
  replace F4 := F4.chg hc69 (dj1 D20)
  replace F10 := F10.chg hc69 (dj1 D21)
  replace hB := hB.inS hc69 (inLow (low1 G16))
  replace hZ := Nat.le_trans hZ hc69.size
  replace F68 : Cl w67 b14 25 [.int .i64 (y51), .int .i64 (y55), .int .i64 (y59), .int .i64 (y63)] := F68
  clear F17
  refine wS_end (by rfl) ?_
  refine eX_then ?_
  refine cW_prune [(4, .pointer (some ⟨b14, 0, none⟩))] (by kernel_rfl) (by kernel_rfl) (fun a70 => ?_)
  refine cW_ret ?_
  have hq : (some ((y51, y55, y59, y63)) : Option ((Int × Int × Int × Int))) = some _ := hm
  replace hq := someE hq
  subst hq
  refine eX_ret (vs := [.agg #[.int .i64 (y51), .int .i64 (y55), .int .i64 (y59), .int .i64 (y63)]]) [.cell 4 25] (by rfl) ⟨⟨⟨b14, 0, none⟩, by kernel_rfl, run_loadVarA (vs := [.int .i64 (y51), .int .i64 (y55), .int .i64 (y59), .int .i64 (y63)]) vt25 (fun i u hu => by exact box_cells F68 0 hu (by rfl))⟩, trivial⟩ ?_
  exact ⟨rfl, hB⟩

set_option maxRecDepth 100000 in
/-- impl.Region).meet -/
theorem c_impl_Region_meet {w0 : World} {p0_0 : Int} {p0_1 : Int} {p0_2 : Int} {p0_3 : Int} {p1_0 : Int} {p1_1 : Int} {p1_2 : Int} {p1_3 : Int} {r : (Int × Int × Int × Int) × (Bool)} (hm : m_impl_Region_meet p0_0 p0_1 p0_2 p0_3 p1_0 p1_1 p1_2 p1_3 = some r)  :
    Calls Try.prog 92 #[.agg #[.int .i64 (p0_0), .int .i64 (p0_1), .int .i64 (p0_2), .int .i64 (p0_3)], .agg #[.int .i64 (p1_0), .int .i64 (p1_1), .int .i64 (p1_2), .int .i64 (p1_3)]] w0 fun e w' => e = .returned (.tuple #[.agg #[.int .i64 (r.1.1), .int .i64 (r.1.2.1), .int .i64 (r.1.2.2.1), .int .i64 (r.1.2.2.2)], .bool (r.2)]) ∧ Chg [] w0 w' := by
  have hB : Chg [] w0 w0 := Chg.refl _ _
  have hZ := Nat.le_refl w0.heap.size
  unfold m_impl_Region_meet at hm
  refine enterE (N := 41) Try.func92 (by rfl) Try.ntmps92 (by simp) [(0, .agg #[.int .i64 (p0_0), .int .i64 (p0_1), .int .i64 (p0_2), .int .i64 (p0_3)]), (1, .agg #[.int .i64 (p1_0), .int .i64 (p1_1), .int .i64 (p1_2), .int .i64 (p1_3)])] (by rfl) (by kernel_rfl) (fun a => ?_)
  refine cW_seq ?_
  refine cW_region ?_
  refine wS_box (d := 2) (T := 25) (x := .agg #[.int .i64 (p0_0), .int .i64 (p0_1), .int .i64 (p0_2), .int .i64 (p0_3)]) (by kernel_rfl) ?_
  intro b1 w2 G3 F4 hc5
  replace F4 : Cl w2 b1 25 [.int .i64 (p0_0), .int .i64 (p0_1), .int .i64 (p0_2), .int .i64 (p0_3)] := F4
  replace hB := hB.inS hc5 inNil
  replace G3 := Nat.le_trans hZ G3
  replace hZ := Nat.le_trans hZ hc5.size
  refine wS_box (d := 3) (T := 25) (x := .agg #[.int .i64 (p1_0), .int .i64 (p1_1), .int .i64 (p1_2), .int .i64 (p1_3)]) (by kernel_rfl) ?_
  intro b7 w8 G9 F10 hc11
  replace F10 : Cl w8 b7 25 [.int .i64 (p1_0), .int .i64 (p1_1), .int .i64 (p1_2), .int .i64 (p1_3)] := F10
  have D13 : Dj [b1] [b7] := Dj.of (lt1 F4.lt) (low1 G9)
  replace F4 := F4.chg hc11 notNil
  replace hB := hB.inS hc11 inNil
  replace G9 := Nat.le_trans hZ G9
  replace hZ := Nat.le_trans hZ hc11.size
  refine wS_alloc (d := 4) (T := 25) (z := .agg #[.int .i64 (0), .int .i64 (0), .int .i64 (0), .int .i64 (0)]) (by kernel_rfl) (by kernel_rfl) ?_
  intro b14 w15 G16 F17 hc18
  replace F17 : Cl w15 b14 25 [.int .i64 (0), .int .i64 (0), .int .i64 (0), .int .i64 (0)] := F17
  have D20 : Dj [b1] [b14] := Dj.of (lt1 F4.lt) (low1 G16)
  have D21 : Dj [b7] [b14] := Dj.of (lt1 F10.lt) (low1 G16)
  replace F4 := F4.chg hc18 notNil
  replace F10 := F10.chg hc18 notNil
  replace hB := hB.inS hc18 inNil
  replace G16 := Nat.le_trans hZ G16
  replace hZ := Nat.le_trans hZ hc18.size
  refine wS_pure 1 [(5, .bool (false))] (by kernel_rfl) ?_
  refine wS_end (by rfl) ?_
  refine eX_then ?_
  refine cW_seq ?_
  refine cW_region ?_
  refine wS_pure 1 [(7, .pointer (some ⟨b1, 0, none⟩))] (by kernel_rfl) ?_
  refine wS_load1 (d := 8) (T := 2) (ad := ⟨b1, 0, none⟩) (v := .int .i64 (p0_0)) (by kernel_rfl) vt2 ((F4).cell 0) ?_
  refine wS_pure 1 [(9, .pointer (some ⟨b7, 0, none⟩))] (by kernel_rfl) ?_
  refine wS_load1 (d := 10) (T := 2) (ad := ⟨b7, 0, none⟩) (v := .int .i64 (p1_0)) (by kernel_rfl) vt2 ((F10).cell 0) ?_
  refine wS_pure 2 [(12, .pointer (some ⟨b1, 1, none⟩)), (11, .int .i64 (if p1_0 > p0_0 then p1_0 else p0_0))] (by kernel_rfl) ?_
  refine wS_load1 (d := 13) (T := 2) (ad := ⟨b1, 1, none⟩) (v := .int .i64 (p0_1)) (by kernel_rfl) vt2 ((F4).cell 1) ?_
  refine wS_pure 1 [(14, .pointer (some ⟨b7, 1, none⟩))] (by kernel_rfl) ?_
  refine wS_load1 (d := 15) (T := 2) (ad := ⟨b7, 1, none⟩) (v := .int .i64 (p1_1)) (by kernel_rfl) vt2 ((F10).cell 1) ?_
  refine wS_pure 2 [(17, .pointer (some ⟨b1, 2, none⟩)), (16, .int .i64 (if p1_1 < p0_1 then p1_1 else p0_1))] (by kernel_rfl) ?_
  refine wS_load1 (d := 18) (T := 2) (ad := ⟨b1, 2, none⟩) (v := .int .i64 (p0_2)) (by kernel_rfl) vt2 ((F4).cell 2) ?_
  refine wS_pure 1 [(19, .pointer (some ⟨b7, 2, none⟩))] (by kernel_rfl) ?_
  refine wS_load1 (d := 20) (T := 2) (ad := ⟨b7, 2, none⟩) (v := .int .i64 (p1_2)) (by kernel_rfl) vt2 ((F10).cell 2) ?_
  refine wS_pure 2 [(22, .pointer (some ⟨b1, 3, none⟩)), (21, .int .i64 (if p1_2 > p0_2 then p1_2 else p0_2))] (by kernel_rfl) ?_
  refine wS_load1 (d := 23) (T := 2) (ad := ⟨b1, 3, none⟩) (v := .int .i64 (p0_3)) (by kernel_rfl) vt2 ((F4).cell 3) ?_
  refine wS_pure 1 [(24, .pointer (some ⟨b7, 3, none⟩))] (by kernel_rfl) ?_
  refine wS_load1 (d := 25) (T := 2) (ad := ⟨b7, 3, none⟩) (v := .int .i64 (p1_3)) (by kernel_rfl) vt2 ((F10).cell 3) ?_
  refine wS_pure 2 [(27, .agg #[.int .i64 (if p1_0 > p0_0 then p1_0 else p0_0), .int .i64 (if p1_1 < p0_1 then p1_1 else p0_1), .int .i64 (if p1_2 > p0_2 then p1_2 else p0_2), .int .i64 (if p1_3 < p0_3 then p1_3 else p0_3)]), (26, .int .i64 (if p1_3 < p0_3 then p1_3 else p0_3))] (by kernel_rfl) ?_
  refine wS_alloc (d := 6) (T := 25) (z := .agg #[.int .i64 (0), .int .i64 (0), .int .i64 (0), .int .i64 (0)]) (by kernel_rfl) (by kernel_rfl) ?_
  intro b22 w23 G24 F25 hc26
  replace F25 : Cl w23 b22 25 [.int .i64 (0), .int .i64 (0), .int .i64 (0), .int .i64 (0)] := F25
  have D28 : Dj [b1] [b22] := Dj.of (lt1 F4.lt) (low1 G24)
  have D29 : Dj [b7] [b22] := Dj.of (lt1 F10.lt) (low1 G24)
  have D30 : Dj [b14] [b22] := Dj.of (lt1 F17.lt) (low1 G24)
  replace F4 := F4.chg hc26 notNil
  replace F10 := F10.chg hc26 notNil
  replace F17 := F17.chg hc26 notNil
  replace hB := hB.inS hc26 inNil
  replace G24 := Nat.le_trans hZ G24
  replace hZ := Nat.le_trans hZ hc26.size
  refine wS_store (T := 25) (g := b22) (o := 0) (ad := ⟨b22, 0, none⟩) (v := .agg #[.int .i64 (if p1_0 > p0_0 then p1_0 else p0_0), .int .i64 (if p1_1 < p0_1 then p1_1 else p0_1), .int .i64 (if p1_2 > p0_2 then p1_2 else p0_2), .int .i64 (if p1_3 < p0_3 then p1_3 else p0_3)]) (vs := [.int .i64 (if p1_0 > p0_0 then p1_0 else p0_0), .int .i64 (if p1_1 < p0_1 then p1_1 else p0_1), .int .i64 (if p1_2 > p0_2 then p1_2 else p0_2), .int .i64 (if p1_3 < p0_3 then p1_3 else p0_3)]) (by kernel_rfl) (by rfl) sz25 (by rfl) (by rfl) F25 (by simp only [List.length_cons, List.length_nil]; omega) ?_
  intro w31 F32 hc33
  replace F4 := F4.chg hc33 (dj1 D28)
  replace F10 := F10.chg hc33 (dj1 D29)
  replace F17 := F17.chg hc33 (dj1 D30)
  replace hB := hB.inS hc33 (inLow (low1 G24))
  replace hZ := Nat.le_trans hZ hc33.size
  replace F32 : Cl w31 b22 25 [.int .i64 (if p1_0 > p0_0 then p1_0 else p0_0), .int .i64 (if p1_1 < p0_1 then p1_1 else p0_1), .int .i64 (if p1_2 > p0_2 then p1_2 else p0_2), .int .i64 (if p1_3 < p0_3 then p1_3 else p0_3)] := F32
  clear F25
  refine wS_end (by rfl) ?_
  refine eX_then ?_
  refine cW_prune [(4, .pointer (some ⟨b14, 0, none⟩)), (6, .pointer (some ⟨b22, 0, none⟩))] (by kernel_rfl) (by kernel_rfl) (fun a34 => ?_)
  refine cW_seq ?_
  refine cW_drawnTail [b14] 14 (by kernel_rfl) (by kernel_rfl) (fun w48 hc49 => ?_)
  replace F4 := F4.chg hc49 notNil
  replace F10 := F10.chg hc49 notNil
  replace F17 := F17.chg hc49 notNil
  replace F32 := F32.chg hc49 notNil
  replace hB := hB.inS hc49 inNil
  replace hZ := Nat.le_trans hZ hc49.size
  have hS := Chg.refl [b14] w48
  have Z50 := F4
  have Z51 := F10
  have Z52 := F17
  have Z53 := F32
  refine wH_loadA (i := 0) (d := 28) (T := 25) (ad := ⟨b22, 0, none⟩) (vs := [.int .i64 (if p1_0 > p0_0 then p1_0 else p0_0), .int .i64 (if p1_1 < p0_1 then p1_1 else p0_1), .int .i64 (if p1_2 > p0_2 then p1_2 else p0_2), .int .i64 (if p1_3 < p0_3 then p1_3 else p0_3)]) (by kernel_rfl) (qT (qT qZ)) (by kernel_rfl) (by kernel_rfl) vt25 (fun W hW i u hu => box_cells (Z53.chg hW (dj1 (D30).symm)) 0 hu (by rfl)) ?_
  refine wH_take [1] [1, 0] [(29, .pointer (some ⟨b22, 0, none⟩))] (by kernel_rfl) (qT (qT qZ)) (by kernel_rfl) ?_
  refine wH_load1 (i := 2) (d := 30) (T := 2) (ad := ⟨b22, 0, none⟩) (v := .int .i64 (if p1_0 > p0_0 then p1_0 else p0_0)) (by kernel_rfl) (qT (qT qZ)) (by kernel_rfl) (by kernel_rfl) vt2 (fun W hW => (Z53.chg hW (dj1 (D30).symm)).cell 0) ?_
  refine wH_take [3] [3, 2, 1, 0] [(31, .pointer (some ⟨b22, 1, none⟩))] (by kernel_rfl) (qT (qT qZ)) (by kernel_rfl) ?_
  refine wH_load1 (i := 4) (d := 32) (T := 2) (ad := ⟨b22, 1, none⟩) (v := .int .i64 (if p1_1 < p0_1 then p1_1 else p0_1)) (by kernel_rfl) (qT (qT qZ)) (by kernel_rfl) (by kernel_rfl) vt2 (fun W hW => (Z53.chg hW (dj1 (D30).symm)).cell 1) ?_
  refine wH_take [5, 6] [6, 5, 4, 3, 2, 1, 0] [(34, .bool (decide ((if p1_0 > p0_0 then p1_0 else p0_0) ≤ (if p1_1 < p0_1 then p1_1 else p0_1)))), (33, .bool (decide ((if p1_0 > p0_0 then p1_0 else p0_0) ≤ (if p1_1 < p0_1 then p1_1 else p0_1))))] (by kernel_rfl) (qT (qT qZ)) (by kernel_rfl) ?_
  refine wH_bool (decide ((if p1_0 > p0_0 then p1_0 else p0_0) ≤ (if p1_1 < p0_1 then p1_1 else p0_1))) (fun hb54 => ?_) (fun hb54 => ?_)
  · have hm := condT hb54 hm
    rewrite [hb54]
    refine wH_take [7] [7, 6, 5, 4, 3, 2, 1, 0] [(35, .pointer (some ⟨b22, 2, none⟩))] (by kernel_rfl) (qT (qT qZ)) (by kernel_rfl) ?_
    refine wH_load1 (i := 8) (d := 36) (T := 2) (ad := ⟨b22, 2, none⟩) (v := .int .i64 (if p1_2 > p0_2 then p1_2 else p0_2)) (by kernel_rfl) (qT (qT qZ)) (by kernel_rfl) (by kernel_rfl) vt2 (fun W hW => (Z53.chg hW (dj1 (D30).symm)).cell 2) ?_
    refine wH_take [9] [9, 8, 7, 6, 5, 4, 3, 2, 1, 0] [(37, .pointer (some ⟨b22, 3, none⟩))] (by kernel_rfl) (qT (qT qZ)) (by kernel_rfl) ?_
    refine wH_load1 (i := 10) (d := 38) (T := 2) (ad := ⟨b22, 3, none⟩) (v := .int .i64 (if p1_3 < p0_3 then p1_3 else p0_3)) (by kernel_rfl) (qT (qT qZ)) (by kernel_rfl) (by kernel_rfl) vt2 (fun W hW => (Z53.chg hW (dj1 (D30).symm)).cell 3) ?_
    refine wH_take [11, 12] [12, 11, 10, 9, 8, 7, 6, 5, 4, 3, 2, 1, 0] [(40, .bool (decide ((if p1_2 > p0_2 then p1_2 else p0_2) ≤ (if p1_3 < p0_3 then p1_3 else p0_3)))), (39, .bool (decide ((if p1_2 > p0_2 then p1_2 else p0_2) ≤ (if p1_3 < p0_3 then p1_3 else p0_3))))] (by kernel_rfl) (qT (qT qZ)) (by kernel_rfl) ?_
    refine wH_all [13] (by rfl) (by kernel_rfl) (by simp) ⟨⟨by kernel_rfl, ?_⟩, trivial⟩
    refine wS_store (T := 25) (g := b14) (o := 0) (ad := ⟨b14, 0, none⟩) (v := .agg #[.int .i64 (if p1_0 > p0_0 then p1_0 else p0_0), .int .i64 (if p1_1 < p0_1 then p1_1 else p0_1), .int .i64 (if p1_2 > p0_2 then p1_2 else p0_2), .int .i64 (if p1_3 < p0_3 then p1_3 else p0_3)]) (vs := [.int .i64 (if p1_0 > p0_0 then p1_0 else p0_0), .int .i64 (if p1_1 < p0_1 then p1_1 else p0_1), .int .i64 (if p1_2 > p0_2 then p1_2 else p0_2), .int .i64 (if p1_3 < p0_3 then p1_3 else p0_3)]) (by kernel_rfl) (by rfl) sz25 (by rfl) (by rfl) F17 (by simp only [List.length_cons, List.length_nil]; omega) ?_
    intro w55 F56 hc57
    replace F4 := F4.chg hc57 (dj1 D20)
    replace F10 := F10.chg hc57 (dj1 D21)
    replace F32 := F32.chg hc57 (dj1 (D30).symm)
    replace hB := hB.inS hc57 (inLow (low1 G16))
    have hSz := hS
    replace hS := hS.trans hc57
    replace hZ := Nat.le_trans hZ hc57.size
    replace F56 : Cl w55 b14 25 [.int .i64 (if p1_0 > p0_0 then p1_0 else p0_0), .int .i64 (if p1_1 < p0_1 then p1_1 else p0_1), .int .i64 (if p1_2 > p0_2 then p1_2 else p0_2), .int .i64 (if p1_3 < p0_3 then p1_3 else p0_3)] := F56
    clear F17
    refine wS_end (by kernel_rfl) ?_
    refine eX_KH hS ?_
    refine wH_done (by kernel_rfl) ?_
    refine eX_tail ?_
    refine wS_pure 1 [(5, .bool (decide ((if p1_2 > p0_2 then p1_2 else p0_2) ≤ (if p1_3 < p0_3 then p1_3 else p0_3))))] (by kernel_rfl) ?_
    refine wS_end (by rfl) ?_
    refine eX_then ?_
    refine cW_ret ?_
    have hq : (some (((if p1_0 > p0_0 then p1_0 else p0_0, if p1_1 < p0_1 then p1_1 else p0_1, if p1_2 > p0_2 then p1_2 else p0_2, if p1_3 < p0_3 then p1_3 else p0_3), decide ((if p1_2 > p0_2 then p1_2 else p0_2) ≤ (if p1_3 < p0_3 then p1_3 else p0_3)))) : Option ((Int × Int × Int × Int) × (Bool))) = some _ := hm
    replace hq := someE hq
    subst hq
    refine eX_ret (vs := [.agg #[.int .i64 (if p1_0 > p0_0 then p1_0 else p0_0), .int .i64 (if p1_1 < p0_1 then p1_1 else p0_1), .int .i64 (if p1_2 > p0_2 then p1_2 else p0_2), .int .i64 (if p1_3 < p0_3 then p1_3 else p0_3)], .bool (decide ((if p1_2 > p0_2 then p1_2 else p0_2) ≤ (if p1_3 < p0_3 then p1_3 else p0_3)))]) [.cell 4 25, .tmp 5] (by rfl) ⟨⟨⟨b14, 0, none⟩, by kernel_rfl, run_loadVarA (vs := [.int .i64 (if p1_0 > p0_0 then p1_0 else p0_0), .int .i64 (if p1_1 < p0_1 then p1_1 else p0_1), .int .i64 (if p1_2 > p0_2 then p1_2 else p0_2), .int .i64 (if p1_3 < p0_3 then p1_3 else p0_3)]) vt25 (fun i u hu => by exact box_cells F56 0 hu (by rfl))⟩, ⟨by (show lkE _ _ _ = _); kernel_rfl, trivial⟩⟩ ?_
    exact ⟨rfl, hB⟩
  · have hm := condF hb54 hm
    rewrite [hb54]
    refine wH_take [7, 8, 9, 10, 11, 12] [12, 11, 10, 9, 8, 7, 6, 5, 4, 3, 2, 1, 0] [(40, .bool (false)), (39, undef), (38, undef), (37, undef), (36, undef), (35, undef)] (by kernel_rfl) (qT (qT qZ)) (by kernel_rfl) ?_
    refine wH_all [13] (by rfl) (by kernel_rfl) (by simp) ⟨⟨by kernel_rfl, ?_⟩, trivial⟩
    refine wS_store (T := 25) (g := b14) (o := 0) (ad := ⟨b14, 0, none⟩) (v := .agg #[.int .i64 (if p1_0 > p0_0 then p1_0 else p0_0), .int .i64 (if p1_1 < p0_1 then p1_1 else p0_1), .int .i64 (if p1_2 > p0_2 then p1_2 else p0_2), .int .i64 (if p1_3 < p0_3 then p1_3 else p0_3)]) (vs := [.int .i64 (if p1_0 > p0_0 then p1_0 else p0_0), .int .i64 (if p1_1 < p0_1 then p1_1 else p0_1), .int .i64 (if p1_2 > p0_2 then p1_2 else p0_2), .int .i64 (if p1_3 < p0_3 then p1_3 else p0_3)]) (by kernel_rfl) (by rfl) sz25 (by rfl) (by rfl) F17 (by simp only [List.length_cons, List.length_nil]; omega) ?_
    intro w58 F59 hc60
    replace F4 := F4.chg hc60 (dj1 D20)
    replace F10 := F10.chg hc60 (dj1 D21)
    replace F32 := F32.chg hc60 (dj1 (D30).symm)
    replace hB := hB.inS hc60 (inLow (low1 G16))
    have hSz := hS
    replace hS := hS.trans hc60
    replace hZ := Nat.le_trans hZ hc60.size
    replace F59 : Cl w58 b14 25 [.int .i64 (if p1_0 > p0_0 then p1_0 else p0_0), .int .i64 (if p1_1 < p0_1 then p1_1 else p0_1), .int .i64 (if p1_2 > p0_2 then p1_2 else p0_2), .int .i64 (if p1_3 < p0_3 then p1_3 else p0_3)] := F59
    clear F17
    refine wS_end (by kernel_rfl) ?_
    refine eX_KH hS ?_
    refine wH_done (by kernel_rfl) ?_
    refine eX_tail ?_
    refine wS_pure 1 [(5, .bool (false))] (by kernel_rfl) ?_
    refine wS_end (by rfl) ?_
    refine eX_then ?_
    refine cW_ret ?_
    have hq : (some (((if p1_0 > p0_0 then p1_0 else p0_0, if p1_1 < p0_1 then p1_1 else p0_1, if p1_2 > p0_2 then p1_2 else p0_2, if p1_3 < p0_3 then p1_3 else p0_3), false)) : Option ((Int × Int × Int × Int) × (Bool))) = some _ := hm
    replace hq := someE hq
    subst hq
    refine eX_ret (vs := [.agg #[.int .i64 (if p1_0 > p0_0 then p1_0 else p0_0), .int .i64 (if p1_1 < p0_1 then p1_1 else p0_1), .int .i64 (if p1_2 > p0_2 then p1_2 else p0_2), .int .i64 (if p1_3 < p0_3 then p1_3 else p0_3)], .bool (false)]) [.cell 4 25, .tmp 5] (by rfl) ⟨⟨⟨b14, 0, none⟩, by kernel_rfl, run_loadVarA (vs := [.int .i64 (if p1_0 > p0_0 then p1_0 else p0_0), .int .i64 (if p1_1 < p0_1 then p1_1 else p0_1), .int .i64 (if p1_2 > p0_2 then p1_2 else p0_2), .int .i64 (if p1_3 < p0_3 then p1_3 else p0_3)]) vt25 (fun i u hu => by exact box_cells F59 0 hu (by rfl))⟩, ⟨by (show lkE _ _ _ = _); kernel_rfl, trivial⟩⟩ ?_
    exact ⟨rfl, hB⟩

set_option maxRecDepth 100000 in
/-- laws.szInt64S -/
theorem c_laws_szInt64S {w0 : World} {l0 : List (Int)} {A0 : Option Addr} {cap0 : Nat} {fp0 : List Nat} {p1 : Int} {r : (Int)} (hm : m_laws_szInt64S l0 p1 = some r) (F0 : Sl 1 encI w0 fp0 A0 l0) :
    Calls Try.prog 93 #[.slice A0 (l0).length cap0, .int .i64 (p1)] w0 fun e w' => e = .returned (.int .i64 (r)) ∧ Chg [] w0 w' := by
  have L0 := F0.low
  have hB : Chg [] w0 w0 := Chg.refl _ _
  have hZ := Nat.le_refl w0.heap.size
  unfold m_laws_szInt64S at hm
  refine enterE (N := 12) Try.func93 (by rfl) Try.ntmps93 (by simp) [(0, .slice A0 (l0).length cap0), (1, .int .i64 (p1))] (by rfl) (by kernel_rfl) (fun a => ?_)
  refine cW_seq ?_
  refine cW_region ?_
  refine wS_pure 1 [(4, .int .i64 (0))] (by kernel_rfl) ?_
  refine wS_end (by rfl) ?_
  refine eX_then ?_
  refine cW_seq ?_
  refine cW_region ?_
  refine wS_pure 5 [(1, .int .i64 (wr (p1 - (((l0).length : Int))))), (8, .int .i64 (wr (p1 - (((l0).length : Int))))), (7, .int .i64 (((l0).length : Int))), (6, .slice A0 (l0).length cap0), (5, .int .i64 (p1))] (by kernel_rfl) ?_
  refine wS_end (by rfl) ?_
  refine eX_then ?_
  refine cW_seq ?_
  refine cW_seq ?_
  refine cW_region ?_
  refine wS_pure 2 [(10, .bool (decide ((wr (p1 - (((l0).length : Int)))) < 0))), (9, .int .i64 (wr (p1 - (((l0).length : Int)))))] (by kernel_rfl) ?_
  refine wS_end (by rfl) ?_
  refine eX_then ?_
  refine cW_cond (t := decide ((wr (p1 - (((l0).length : Int)))) < 0)) (by kernel_rfl) (fun hb2 => ?_) (fun hb2 => ?_)
  · have hm := condT hb2 hm
    refine cW_seq ?_
    refine cW_region ?_
    refine wS_pure 1 [(4, .int .i64 ((-1)))] (by kernel_rfl) ?_
    refine wS_end (by rfl) ?_
    refine eX_then ?_
    refine cW_ret ?_
    refine eX_then_ret ?_
    have hq : (some ((-1)) : Option ((Int))) = some _ := hm
    replace hq := someE hq
    subst hq
    refine eX_ret (vs := [.int .i64 ((-1))]) [.tmp 4] (by rfl) ⟨by (show lkE _ _ _ = _); kernel_rfl, trivial⟩ ?_
    exact ⟨rfl, hB⟩
  · have hm := condF hb2 hm
    refine cW_skip ?_
    refine eX_then ?_
    refine cW_seq ?_
    refine cW_region ?_
    refine wS_pure 2 [(4, .int .i64 (wr (p1 - (((l0).length : Int))))), (11, .int .i64 (wr (p1 - (((l0).length : Int)))))] (by kernel_rfl) ?_
    refine wS_end (by rfl) ?_
    refine eX_then ?_
    refine cW_ret ?_
    have hq : (some (wr (p1 - (((l0).length : Int)))) : Option ((Int))) = some _ := hm
    replace hq := someE hq
    subst hq
    refine eX_ret (vs := [.int .i64 (wr (p1 - (((l0).length : Int))))]) [.tmp 4] (by rfl) ⟨by (show lkE _ _ _ = _); kernel_rfl, trivial⟩ ?_
    exact ⟨rfl, hB⟩

set_option maxRecDepth 100000 in
/-- laws.szInt64SS -/
theorem c_laws_szInt64SS {w0 : World} {l0 : List (List (Int))} {A0 : Option Addr} {cap0 : Nat} {fp0 : List Nat} {p1 : Int} {r : (Int)} (hm : m_laws_szInt64SS l0 p1 = some r) (F0 : SlR 1 encI w0 fp0 A0 l0) :
    Calls Try.prog 36 #[.slice A0 (l0).length cap0, .int .i64 (p1)] w0 fun e w' => e = .returned (.int .i64 (r)) ∧ Chg [] w0 w' := by
  have L0 := F0.low
  have hB : Chg [] w0 w0 := Chg.refl _ _
  have hZ := Nat.le_refl w0.heap.size
  unfold m_laws_szInt64SS at hm
  refine enterE (N := 27) Try.func36 (by rfl) Try.ntmps36 (by simp) [(0, .slice A0 (l0).length cap0), (1, .int .i64 (p1))] (by rfl) (by kernel_rfl) (fun a => ?_)
  refine cW_seq ?_
  refine cW_region ?_
  refine wS_pure 1 [(4, .int .i64 (0))] (by kernel_rfl) ?_
  refine wS_end (by rfl) ?_
  refine eX_then ?_
  refine cW_seq ?_
  refine cW_region ?_
  refine wS_pure 5 [(1, .int .i64 (wr (p1 - (((l0).length : Int))))), (9, .int .i64 (wr (p1 - (((l0).length : Int))))), (8, .int .i64 (((l0).length : Int))), (7, .slice A0 (l0).length cap0), (6, .int .i64 (p1))] (by kernel_rfl) ?_
  refine wS_end (by rfl) ?_
  refine eX_then ?_
  refine cW_seq ?_
  refine cW_seq ?_
  refine cW_region ?_
  refine wS_pure 2 [(11, .bool (decide ((wr (p1 - (((l0).length : Int)))) < 0))), (10, .int .i64 (wr (p1 - (((l0).length : Int)))))] (by kernel_rfl) ?_
  refine wS_end (by rfl) ?_
  refine eX_then ?_
  refine cW_cond (t := decide ((wr (p1 - (((l0).length : Int)))) < 0)) (by kernel_rfl) (fun hb2 => ?_) (fun hb2 => ?_)
  · have hm := condT hb2 hm
    refine cW_seq ?_
    refine cW_region ?_
    refine wS_pure 1 [(4, .int .i64 ((-1)))] (by kernel_rfl) ?_
    refine wS_end (by rfl) ?_
    refine eX_then ?_
    refine cW_ret ?_
    refine eX_then_ret ?_
    have hq : (some ((-1)) : Option ((Int))) = some _ := hm
    replace hq := someE hq
    subst hq
    refine eX_ret (vs := [.int .i64 ((-1))]) [.tmp 4] (by rfl) ⟨by (show lkE _ _ _ = _); kernel_rfl, trivial⟩ ?_
    exact ⟨rfl, hB⟩
  · have hm := condF hb2 hm
    refine cW_skip ?_
    refine eX_then ?_
    refine cW_seq ?_
    refine cW_seq ?_
    refine cW_region ?_
    refine wS_pure 1 [(5, .int .i64 (0))] (by kernel_rfl) ?_
    refine wS_end (by rfl) ?_
    refine eX_then ?_
    obtain ⟨r43, hr44, hm⟩ := bindE hm
    have hm45 := hm
    refine cW_cut (fun a' w' => ∃ x36 : Int, Sum.inl x36 = r43 ∧ Fr 27 [(1, .int .i64 (x36))] a' ∧ Chg [] w0 w' ∧ w0.heap.size ≤ w'.heap.size) ?_ ?_
    · refine cW_block ?_
      refine cW_loop _ (fun (s46 : Int × Int) a' w' => ∃ x39 : Int, ∃ x40 : Int, (x39, x40) = s46 ∧ Fr 27 [(0, .slice A0 (l0).length cap0), (1, .int .i64 (x39)), (5, .int .i64 (x40))] a' ∧ SlR 1 encI w' fp0 A0 l0 ∧ Chg [] w0 w' ∧ w0.heap.size ≤ w'.heap.size) hr44 (fun hst => ⟨wr (p1 - (((l0).length : Int))), 0, rfl, Fr.of hst (by kernel_rfl), F0, hB, hZ⟩) ?_
      rintro _ c47 a' w38 ⟨x39, x40, rfl, hF41, F42, hB, hZ⟩ hx48
      refine Fr.goOn hF41 (by kernel_rfl) ?_
      have hm := hx48
      unfold m_laws_szInt64SS_s1 at hm
      refine cW_seq ?_
      refine cW_seq ?_
      refine cW_region ?_
      refine wS_pure 4 [(15, .bool (decide (x40 < (((l0).length : Int))))), (14, .int .i64 (((l0).length : Int))), (13, .slice A0 (l0).length cap0), (12, .int .i64 (x40))] (by kernel_rfl) ?_
      refine wS_end (by rfl) ?_
      refine eX_then ?_
      refine cW_cond (t := decide (x40 < (((l0).length : Int)))) (by kernel_rfl) (fun hb49 => ?_) (fun hb49 => ?_)
      · have hm := condT hb49 hm
        refine cW_skip ?_
        refine eX_then ?_
        refine cW_seq ?_
        refine cW_block ?_
        refine cW_seq ?_
        refine cW_region ?_
        refine wS_pure 2 [(19, .int .i64 (x40)), (18, .slice A0 (l0).length cap0)] (by kernel_rfl) ?_
        obtain ⟨x50, hx51, hm⟩ := bindE hm
        refine wS_idx (d := 20) (T := 44) (A := A0) (n := (l0).length) (cap := cap0) (kd := .i64) (m := x40) (by kernel_rfl) sl44 (F42.is hx51) ?_
        obtain ⟨A52, cap53, hc55, F54⟩ := SlR.row F42 hx51
        refine wS_load1 (d := 21) (T := 68) (ad := (elA A0 1 (x40) 0)) (v := .slice A52 (x50).length cap53) (by kernel_rfl) vt68 hc55 ?_
        refine wS_pure 1 [(22, .int .i64 (x39))] (by kernel_rfl) ?_
        obtain ⟨y57, hy58, hm⟩ := bindE hm
        refine wS_calls (d := 23) (f := 93) (vs := [.slice A52 (x50).length cap53, .int .i64 (x39)]) (by kernel_rfl) ent93 (c_laws_szInt64S hy58 F54) ?_
        rintro _ w59 ⟨rfl, hc60⟩
        replace F42 := F42.chg hc60 Dj.nil
        replace F54 := F54.chg hc60 Dj.nil
        replace hB := hB.inS hc60 inNil
        replace hZ := Nat.le_trans hZ hc60.size
        refine ⟨.int .i64 (y57), rfl, ?_⟩
        refine wS_pure 1 [(1, .int .i64 (y57))] (by kernel_rfl) ?_
        refine wS_end (by rfl) ?_
        refine eX_then ?_
        refine cW_seq ?_
        refine cW_region ?_
        refine wS_pure 2 [(25, .bool (decide (y57 < 0))), (24, .int .i64 (y57))] (by kernel_rfl) ?_
        refine wS_end (by rfl) ?_
        refine eX_then ?_
        refine cW_cond (t := decide (y57 < 0)) (by kernel_rfl) (fun hb61 => ?_) (fun hb61 => ?_)
        · have hm := condT hb61 hm
          refine cW_seq ?_
          refine cW_region ?_
          refine wS_pure 1 [(4, .int .i64 ((-1)))] (by kernel_rfl) ?_
          refine wS_end (by rfl) ?_
          refine eX_then ?_
          refine cW_ret ?_
          refine eX_block_ret ?_
          refine eX_then_ret ?_
          have hq : (some (Ctl.out (Sum.inr ((-1)))) : Option (Ctl (Int × Int) (Sum (Int) ((Int))))) = some _ := hm
          replace hq := someE hq
          subst hq
          refine eX_outR hx48 (fun hr => ?_)
          subst hr
          refine eX_block_ret ?_
          refine eX_then_ret ?_
          refine eX_then_ret ?_
          have hq : (some ((-1)) : Option ((Int))) = some _ := hm45
          replace hq := someE hq
          subst hq
          refine eX_ret (vs := [.int .i64 ((-1))]) [.tmp 4] (by rfl) ⟨by (show lkE _ _ _ = _); kernel_rfl, trivial⟩ ?_
          exact ⟨rfl, hB⟩
        · have hm := condF hb61 hm
          refine cW_skip ?_
          refine eX_block ?_
          refine eX_then ?_
          refine cW_region ?_
          refine wS_pure 3 [(5, .int .i64 (wr (x40 + 1))), (17, .int .i64 (wr (x40 + 1))), (16, .int .i64 (x40))] (by kernel_rfl) ?_
          refine wS_end (by rfl) ?_
          have hq : (some (Ctl.next ((y57, wr (x40 + 1)))) : Option (Ctl (Int × Int) (Sum (Int) ((Int))))) = some _ := hm
          replace hq := someE hq
          subst hq
          exact eX_next hx48 (fun hst => ⟨y57, wr (x40 + 1), rfl, Fr.of hst (by kernel_rfl), F42, hB, hZ⟩)
      · have hm := condF hb49 hm
        refine cW_exit ?_
        refine eX_then_exit ?_
        have hq : (some (Ctl.out (Sum.inl x39)) : Option (Ctl (Int × Int) (Sum (Int) ((Int))))) = some _ := hm
        replace hq := someE hq
        subst hq
        refine eX_outX hx48 (fun hr62 => ?_)
        replace hr62 := hr62.symm
        subst hr62
        refine eX_block_hit ?_
        exact eX_J (fun hst => ⟨x39, rfl, Fr.of hst (by kernel_rfl), hB, hZ⟩)
    · rintro a' w35 ⟨x36, hJ, hF37, hB, hZ⟩
      subst hJ
      refine Fr.goX hF37 (by kernel_rfl) ?_
      refine eX_then ?_
      refine cW_seq ?_
      refine cW_region ?_
      refine wS_pure 2 [(4, .int .i64 (x36)), (26, .int .i64 (x36))] (by kernel_rfl) ?_
      refine wS_end (by rfl) ?_
      refine eX_then ?_
      refine cW_ret ?_
      have hq : (some x36 : Option ((Int))) = some _ := hm
      replace hq := someE hq
      subst hq
      refine eX_ret (vs := [.int .i64 (x36)]) [.tmp 4] (by rfl) ⟨by (show lkE _ _ _ = _); kernel_rfl, trivial⟩ ?_
      exact ⟨rfl, hB⟩

set_option maxRecDepth 100000 in
/-- spec.l06Joins -/
theorem c_spec_l06Joins {w0 : World} {p0 : Int} {l1 : List (List (Int))} {A1 : Option Addr} {cap1 : Nat} {fp1 : List Nat} {r : (Bool)} (hm : m_spec_l06Joins p0 l1 = some r) (F1 : SlR 1 encI w0 fp1 A1 l1) :
    Calls Try.prog 94 #[.int .i64 (p0), .slice A1 (l1).length cap1] w0 fun e w' => e = .returned (.bool (r)) ∧ Chg [] w0 w' := by
  have L1 := F1.low
  have hB : Chg [] w0 w0 := Chg.refl _ _
  have hZ := Nat.le_refl w0.heap.size
  unfold m_spec_l06Joins at hm
  refine enterE (N := 106) Try.func94 (by rfl) Try.ntmps94 (by simp) [(0, .int .i64 (p0)), (1, .slice A1 (l1).length cap1)] (by rfl) (by kernel_rfl) (fun a => ?_)
  refine cW_seq ?_
  refine cW_region ?_
  refine wS_pure 1 [(4, .bool (false))] (by kernel_rfl) ?_
  refine wS_end (by rfl) ?_
  refine eX_then ?_
  refine cW_seq ?_
  refine cW_seq ?_
  refine cW_region ?_
  refine wS_pure 1 [(7, .int .i64 (p0))] (by kernel_rfl) ?_
  obtain ⟨y2, hy3, hm⟩ := bindE hm
  refine wS_calls (d := 8) (f := 88) (vs := [.int .i64 (p0), .int .i64 (2), .int .i64 (12)]) (by kernel_rfl) ent88 (c_spec_l00In hy3) ?_
  rintro _ w4 ⟨rfl, hc5⟩
  replace F1 := F1.chg hc5 Dj.nil
  replace hB := hB.inS hc5 inNil
  replace hZ := Nat.le_trans hZ hc5.size
  refine ⟨.bool (y2), rfl, ?_⟩
  refine wS_pure 2 [(10, .bool (!y2)), (9, .bool (!y2))] (by kernel_rfl) ?_
  refine wS_bool (!y2) (fun hb6 => ?_) (fun hb6 => ?_)
  · have hm := condT hb6 hm
    rewrite [hb6]
    refine wS_pure 6 [(16, .bool (true)), (15, undef), (14, undef), (13, undef), (12, undef), (11, undef)] (by kernel_rfl) ?_
    refine wS_end (by rfl) ?_
    refine eX_then ?_
    refine cW_cond_t (by kernel_rfl) ?_
    refine cW_seq ?_
    refine cW_region ?_
    refine wS_pure 1 [(4, .bool (false))] (by kernel_rfl) ?_
    refine wS_end (by rfl) ?_
    refine eX_then ?_
    refine cW_ret ?_
    refine eX_then_ret ?_
    have hq : (some false : Option ((Bool))) = some _ := hm
    replace hq := someE hq
    subst hq
    refine eX_ret (vs := [.bool (false)]) [.tmp 4] (by rfl) ⟨by (show lkE _ _ _ = _); kernel_rfl, trivial⟩ ?_
    exact ⟨rfl, hB⟩
  · have hm := condF hb6 hm
    rewrite [hb6]
    refine wS_pure 6 [(16, .bool ((((l1).length : Int)) != (wr (p0 - 1)))), (15, .bool ((((l1).length : Int)) != (wr (p0 - 1)))), (14, .int .i64 (wr (p0 - 1))), (13, .int .i64 (p0)), (12, .int .i64 (((l1).length : Int))), (11, .slice A1 (l1).length cap1)] (by kernel_rfl) ?_
    refine wS_end (by rfl) ?_
    refine eX_then ?_
    refine cW_cond (t := (((l1).length : Int)) != (wr (p0 - 1))) (by kernel_rfl) (fun hb7 => ?_) (fun hb7 => ?_)
    · have hm := condT hb7 hm
      refine cW_seq ?_
      refine cW_region ?_
      refine wS_pure 1 [(4, .bool (false))] (by kernel_rfl) ?_
      refine wS_end (by rfl) ?_
      refine eX_then ?_
      refine cW_ret ?_
      refine eX_then_ret ?_
      have hq : (some false : Option ((Bool))) = some _ := hm
      replace hq := someE hq
      subst hq
      refine eX_ret (vs := [.bool (false)]) [.tmp 4] (by rfl) ⟨by (show lkE _ _ _ = _); kernel_rfl, trivial⟩ ?_
      exact ⟨rfl, hB⟩
    · have hm := condF hb7 hm
      refine cW_skip ?_
      refine eX_then ?_
      refine cW_seq ?_
      refine cW_region ?_
      refine wS_pure 3 [(19, .int .i64 (wr ((wr (2 * p0)) - 1))), (18, .int .i64 (wr (2 * p0))), (17, .int .i64 (p0))] (by kernel_rfl) ?_
      obtain ⟨_, hk8, hm⟩ := bindE hm
      replace hk8 := mkE hk8
      refine wS_make (enc := encB) (x0 := (false : Bool)) (d := 20) (t := 130) (T := 4) (k1 := .i64) (k2 := .i64) (m := wr ((wr (2 * p0)) - 1)) (by kernel_rfl) el130 encB_ok (by rfl) hk8.1 hk8.2 ?_
      intro b9 w10 G11 F12 hc13
      replace F1 := F1.chg hc13 Dj.nil
      replace hB := hB.inS hc13 inNil
      replace G11 := Nat.le_trans hZ G11
      replace G11 := low1 G11
      replace hZ := Nat.le_trans hZ hc13.size
      refine wS_pure 1 [(5, .slice (some ⟨b9, 0, none⟩) (List.replicate (Int.toNat (wr ((wr (2 * p0)) - 1))) ((false : Bool))).length (Int.toNat (wr ((wr (2 * p0)) - 1))))] (by kernel_rfl) ?_
      refine wS_end (by rfl) ?_
      refine eX_then ?_
      refine cW_seq ?_
      refine cW_seq ?_
      refine cW_region ?_
      refine wS_pure 1 [(6, .int .i64 (0))] (by kernel_rfl) ?_
      refine wS_end (by rfl) ?_
      refine eX_then ?_
      obtain ⟨r405, hr406, hm⟩ := bindE hm
      have hm407 := hm
      refine cW_cut (fun a' w' => Sum.inl (()) = r405 ∧ Fr 106 [] a' ∧ Chg [] w0 w' ∧ w0.heap.size ≤ w'.heap.size) ?_ ?_
      · refine cW_block ?_
        refine cW_loop _ (fun (s408 : Int × (List (Bool))) a' w' => ∃ x400 : Int, ∃ l401 : List (Bool), (x400, l401) = s408 ∧ Fr 106 [(0, .int .i64 (p0)), (1, .slice A1 (l1).length cap1), (5, .slice (some ⟨b9, 0, none⟩) (l401).length (Int.toNat (wr ((wr (2 * p0)) - 1)))), (6, .int .i64 (x400))] a' ∧ SlR 1 encI w' fp1 A1 l1 ∧ Ow 1 encB 4 w' [b9] (some ⟨b9, 0, none⟩) (Int.toNat (wr ((wr (2 * p0)) - 1))) l401 ∧ Chg [] w0 w' ∧ w0.heap.size ≤ w'.heap.size) hr406 (fun hst => ⟨0, List.replicate (Int.toNat (wr ((wr (2 * p0)) - 1))) ((false : Bool)), rfl, Fr.of hst (by kernel_rfl), F1, F12, hB, hZ⟩) ?_
        rintro _ c409 a' w399 ⟨x400, l401, rfl, hF402, F403, F404, hB, hZ⟩ hx410
        refine Fr.goOn hF402 (by kernel_rfl) ?_
        have hm := hx410
        unfold m_spec_l06Joins_s1 at hm
        refine cW_seq ?_
        refine cW_seq ?_
        refine cW_region ?_
        refine wS_pure 4 [(24, .bool (decide (x400 < (wr (p0 - 1))))), (23, .int .i64 (wr (p0 - 1))), (22, .int .i64 (p0)), (21, .int .i64 (x400))] (by kernel_rfl) ?_
        refine wS_end (by rfl) ?_
        refine eX_then ?_
        refine cW_cond (t := decide (x400 < (wr (p0 - 1)))) (by kernel_rfl) (fun hb411 => ?_) (fun hb411 => ?_)
        · have hm := condT hb411 hm
          refine cW_skip ?_
          refine eX_then ?_
          refine cW_seq ?_
          refine cW_block ?_
          refine cW_seq ?_
          refine cW_seq ?_
          refine cW_drawnTail [] 60 (by kernel_rfl) (by kernel_rfl) (fun w488 hc489 => ?_)
          replace F403 := F403.chg hc489 Dj.nil
          replace F404 := F404.chg hc489 Dj.nil
          replace hB := hB.inS hc489 inNil
          replace hZ := Nat.le_trans hZ hc489.size
          have hS := Chg.refl [] w488
          have Z490 := F403
          have Z491 := F404
          refine wH_take [0, 1] [1, 0] [(28, .int .i64 (x400)), (27, .slice A1 (l1).length cap1)] (by kernel_rfl) (qT (qT (qT (qB (qT (qL (qB (qT (qT qZ))))))))) (by kernel_rfl) ?_
          obtain ⟨x492, hx493, hm⟩ := bindE hm
          refine wH_idx (i := 2) (d := 29) (T := 44) (A := A1) (n := (l1).length) (cap := cap1) (kd := .i64) (m := x400) (by kernel_rfl) (qT (qT (qT (qB (qT (qL (qB (qT (qT qZ))))))))) (by kernel_rfl) (by kernel_rfl) sl44 (F403.is hx493) ?_
          obtain ⟨A494, cap495, hc497, F496⟩ := SlR.row Z490 hx493
          refine wH_load1 (i := 3) (d := 30) (T := 68) (ad := (elA A1 1 (x400) 0)) (v := .slice A494 (x492).length cap495) (by kernel_rfl) (qT (qT (qT (qB (qT (qL (qB (qT (qT qZ))))))))) (by kernel_rfl) (by kernel_rfl) vt68 (fun W hW => hW.keep hc497) ?_
          refine wH_take [4, 5, 6] [6, 5, 4, 3, 2, 1, 0] [(33, .bool ((((x492).length : Int)) != 2)), (32, .bool ((((x492).length : Int)) != 2)), (31, .int .i64 (((x492).length : Int)))] (by kernel_rfl) (qT (qT (qT (qB (qT (qL (qB (qT (qT qZ))))))))) (by kernel_rfl) ?_
          refine wH_bool ((((x492).length : Int)) != 2) (fun hb499 => ?_) (fun hb499 => ?_)
          · have hm := condT hb499 hm
            rewrite [hb499]
            refine wH_take [7, 8, 9, 10, 11, 12, 13, 14, 15, 16, 17, 18, 19, 20, 21, 22, 23, 24, 25, 26, 27, 28, 29, 30, 31, 32, 33, 34, 35, 36, 37, 38, 39, 40, 41, 42, 43, 44, 45, 46, 47, 48, 49, 50, 51, 52, 53, 54, 55, 56, 57, 58, 59] [59, 58, 57, 56, 55, 54, 53, 52, 51, 50, 49, 48, 47, 46, 45, 44, 43, 42, 41, 40, 39, 38, 37, 36, 35, 34, 33, 32, 31, 30, 29, 28, 27, 26, 25, 24, 23, 22, 21, 20, 19, 18, 17, 16, 15, 14, 13, 12, 11, 10, 9, 8, 7, 6, 5, 4, 3, 2, 1, 0] [(86, undef), (85, undef), (84, undef), (83, undef), (82, undef), (81, undef), (80, undef), (79, .bool (true)), (78, .bool (true)), (77, undef), (76, undef), (75, undef), (74, undef), (73, undef), (72, undef), (71, undef), (70, undef), (69, undef), (68, .bool (true)), (67, .bool (true)), (66, undef), (65, undef), (64, undef), (63, undef), (62, undef), (61, undef), (60, undef), (59, undef), (58, undef), (57, undef), (56, undef), (55, undef), (54, undef), (53, undef), (52, undef), (51, undef), (50, undef), (49, undef), (48, undef), (47, .bool (true)), (46, .bool (true)), (45, undef), (44, undef), (43, undef), (42, undef), (41, undef), (40, undef), (39, undef), (38, undef), (37, undef), (36, undef), (35, undef), (34, undef)] (by kernel_rfl) (qT (qT (qT (qB (qT (qL (qB (qT (qT qZ))))))))) (by kernel_rfl) ?_
            refine wH_done (by kernel_rfl) ?_
            refine eX_tail ?_
            refine wS_pure 3 [(89, .bool (true)), (88, undef), (87, undef)] (by kernel_rfl) ?_
            refine wS_end (by rfl) ?_
            refine eX_then ?_
            refine cW_prune [(0, .int .i64 (p0)), (1, .slice A1 (l1).length cap1), (5, .slice (some ⟨b9, 0, none⟩) (l401).length (Int.toNat (wr ((wr (2 * p0)) - 1)))), (6, .int .i64 (x400)), (89, .bool (true))] (by kernel_rfl) (by kernel_rfl) (fun a500 => ?_)
            refine cW_cond_t (by kernel_rfl) ?_
            refine cW_seq ?_
            refine cW_region ?_
            refine wS_pure 1 [(4, .bool (false))] (by kernel_rfl) ?_
            refine wS_end (by rfl) ?_
            refine eX_then ?_
            refine cW_ret ?_
            refine eX_then_ret ?_
            refine eX_block_ret ?_
            refine eX_then_ret ?_
            have hq : (some (Ctl.out (Sum.inr false)) : Option (Ctl (Int × (List (Bool))) (Sum (Unit) ((Bool))))) = some _ := hm
            replace hq := someE hq
            subst hq
            refine eX_outR hx410 (fun hr => ?_)
            subst hr
            refine eX_block_ret ?_
            refine eX_then_ret ?_
            refine eX_then_ret ?_
            have hq : (some false : Option ((Bool))) = some _ := hm407
            replace hq := someE hq
            subst hq
            refine eX_ret (vs := [.bool (false)]) [.tmp 4] (by rfl) ⟨by (show lkE _ _ _ = _); kernel_rfl, trivial⟩ ?_
            exact ⟨rfl, hB⟩
          · have hm := condF hb499 hm
            rewrite [hb499]
            refine wH_take [7, 8] [8, 7, 6, 5, 4, 3, 2, 1, 0] [(35, .int .i64 (x400)), (34, .slice A1 (l1).length cap1)] (by kernel_rfl) (qT (qT (qT (qB (qT (qL (qB (qT (qT qZ))))))))) (by kernel_rfl) ?_
            obtain ⟨x501, hx502, hm⟩ := bindE hm
            refine wH_idx (i := 9) (d := 36) (T := 44) (A := A1) (n := (l1).length) (cap := cap1) (kd := .i64) (m := x400) (by kernel_rfl) (qT (qT (qT (qB (qT (qL (qB (qT (qT qZ))))))))) (by kernel_rfl) (by kernel_rfl) sl44 (F403.is hx502) ?_
            obtain ⟨A503, cap504, hc506, F505⟩ := SlR.row Z490 hx502
            refine wH_load1 (i := 10) (d := 37) (T := 68) (ad := (elA A1 1 (x400) 0)) (v := .slice A503 (x501).length cap504) (by kernel_rfl) (qT (qT (qT (qB (qT (qL (qB (qT (qT qZ))))))))) (by kernel_rfl) (by kernel_rfl) vt68 (fun W hW => hW.keep hc506) ?_
            obtain ⟨x508, hx509, hm⟩ := bindE hm
            refine wH_idx (i := 11) (d := 38) (T := 68) (A := A503) (n := (x501).length) (cap := cap504) (kd := .i64) (m := 0) (by kernel_rfl) (qT (qT (qT (qB (qT (qL (qB (qT (qT qZ))))))))) (by kernel_rfl) (by kernel_rfl) sl68 (F505.is hx509) ?_
            refine wH_load1 (i := 12) (d := 39) (T := 2) (ad := (elA A503 1 (0) 0)) (v := .int .i64 (x508)) (by kernel_rfl) (qT (qT (qT (qB (qT (qL (qB (qT (qT qZ))))))))) (by kernel_rfl) (by kernel_rfl) vt2 (fun W hW => Sl.cell (F505.chg hW Dj.nil) hx509 0 (by rfl)) ?_
            refine wH_take [13, 14, 15, 16] [16, 15, 14, 13, 12, 11, 10, 9, 8, 7, 6, 5, 4, 3, 2, 1, 0] [(43, .int .i64 (wr ((wr (p0 + x400)) - 1))), (42, .int .i64 (wr (p0 + x400))), (41, .int .i64 (x400)), (40, .int .i64 (p0))] (by kernel_rfl) (qT (qT (qT (qB (qT (qL (qB (qT (qT qZ))))))))) (by kernel_rfl) ?_
            refine wH_all [17] (by rfl) (by kernel_rfl) (by simp) ⟨⟨by kernel_rfl, ?_⟩, trivial⟩
            obtain ⟨y510, hy511, hm⟩ := bindE hm
            refine wS_calls (d := 44) (f := 88) (vs := [.int .i64 (x508), .int .i64 (0), .int .i64 (wr ((wr (p0 + x400)) - 1))]) (by kernel_rfl) ent88 (c_spec_l00In hy511) ?_
            rintro _ w512 ⟨rfl, hc513⟩
            replace F403 := F403.chg hc513 Dj.nil
            replace F404 := F404.chg hc513 Dj.nil
            replace F496 := F496.chg hc513 Dj.nil
            replace F505 := F505.chg hc513 Dj.nil
            replace hB := hB.inS hc513 inNil
            have hSz := hS
            replace hS := hS.inS hc513 inNil
            replace hZ := Nat.le_trans hZ hc513.size
            refine ⟨.bool (y510), rfl, ?_⟩
            refine wS_end (by kernel_rfl) ?_
            refine eX_KH hS ?_
            refine wH_take [18, 19, 20] [20, 19, 18, 17, 16, 15, 14, 13, 12, 11, 10, 9, 8, 7, 6, 5, 4, 3, 2, 1, 0] [(47, .bool (!y510)), (46, .bool (!y510)), (45, .bool (!y510))] (by kernel_rfl) (qT (qT (qT (qB (qT (qL (qB (qT (qT qZ))))))))) (by kernel_rfl) ?_
            refine wH_bool (!y510) (fun hb514 => ?_) (fun hb514 => ?_)
            · have hm := condT hb514 hm
              rewrite [hb514]
              refine wH_take [21, 22, 23, 24, 25, 26, 27, 28, 29, 30, 31, 32, 33, 34, 35, 36, 37, 38, 39, 40, 41, 42, 43, 44, 45, 46, 47, 48, 49, 50, 51, 52, 53, 54, 55, 56, 57, 58, 59] [59, 58, 57, 56, 55, 54, 53, 52, 51, 50, 49, 48, 47, 46, 45, 44, 43, 42, 41, 40, 39, 38, 37, 36, 35, 34, 33, 32, 31, 30, 29, 28, 27, 26, 25, 24, 23, 22, 21, 20, 19, 18, 17, 16, 15, 14, 13, 12, 11, 10, 9, 8, 7, 6, 5, 4, 3, 2, 1, 0] [(86, undef), (85, undef), (84, undef), (83, undef), (82, undef), (81, undef), (80, undef), (79, .bool (true)), (78, .bool (true)), (77, undef), (76, undef), (75, undef), (74, undef), (73, undef), (72, undef), (71, undef), (70, undef), (69, undef), (68, .bool (true)), (67, .bool (true)), (66, undef), (65, undef), (64, undef), (63, undef), (62, undef), (61, undef), (60, undef), (59, undef), (58, undef), (57, undef), (56, undef), (55, undef), (54, undef), (53, undef), (52, undef), (51, undef), (50, undef), (49, undef), (48, undef)] (by kernel_rfl) (qT (qT (qT (qB (qT (qL (qB (qT (qT qZ))))))))) (by kernel_rfl) ?_
              refine wH_done (by kernel_rfl) ?_
              refine eX_tail ?_
              refine wS_pure 3 [(89, .bool (true)), (88, undef), (87, undef)] (by kernel_rfl) ?_
              refine wS_end (by rfl) ?_
              refine eX_then ?_
              refine cW_prune [(0, .int .i64 (p0)), (1, .slice A1 (l1).length cap1), (5, .slice (some ⟨b9, 0, none⟩) (l401).length (Int.toNat (wr ((wr (2 * p0)) - 1)))), (6, .int .i64 (x400)), (89, .bool (true))] (by kernel_rfl) (by kernel_rfl) (fun a515 => ?_)
              refine cW_cond_t (by kernel_rfl) ?_
              refine cW_seq ?_
              refine cW_region ?_
              refine wS_pure 1 [(4, .bool (false))] (by kernel_rfl) ?_
              refine wS_end (by rfl) ?_
              refine eX_then ?_
              refine cW_ret ?_
              refine eX_then_ret ?_
              refine eX_block_ret ?_
              refine eX_then_ret ?_
              have hq : (some (Ctl.out (Sum.inr false)) : Option (Ctl (Int × (List (Bool))) (Sum (Unit) ((Bool))))) = some _ := hm
              replace hq := someE hq
              subst hq
              refine eX_outR hx410 (fun hr => ?_)
              subst hr
              refine eX_block_ret ?_
              refine eX_then_ret ?_
              refine eX_then_ret ?_
              have hq : (some false : Option ((Bool))) = some _ := hm407
              replace hq := someE hq
              subst hq
              refine eX_ret (vs := [.bool (false)]) [.tmp 4] (by rfl) ⟨by (show lkE _ _ _ = _); kernel_rfl, trivial⟩ ?_
              exact ⟨rfl, hB⟩
            · have hm := condF hb514 hm
              rewrite [hb514]
              refine wH_take [21, 22] [22, 21, 20, 19, 18, 17, 16, 15, 14, 13, 12, 11, 10, 9, 8, 7, 6, 5, 4, 3, 2, 1, 0] [(49, .int .i64 (x400)), (48, .slice A1 (l1).length cap1)] (by kernel_rfl) (qT (qT (qT (qB (qT (qL (qB (qT (qT qZ))))))))) (by kernel_rfl) ?_
              obtain ⟨x516, hx517, hm⟩ := bindE hm
              refine wH_idx (i := 23) (d := 50) (T := 44) (A := A1) (n := (l1).length) (cap := cap1) (kd := .i64) (m := x400) (by kernel_rfl) (qT (qT (qT (qB (qT (qL (qB (qT (qT qZ))))))))) (by kernel_rfl) (by kernel_rfl) sl44 (F403.is hx517) ?_
              obtain ⟨A518, cap519, hc521, F520⟩ := SlR.row Z490 hx517
              have F523 := F520.chg hS Dj.nil
              refine wH_load1 (i := 24) (d := 51) (T := 68) (ad := (elA A1 1 (x400) 0)) (v := .slice A518 (x516).length cap519) (by kernel_rfl) (qT (qT (qT (qB (qT (qL (qB (qT (qT qZ))))))))) (by kernel_rfl) (by kernel_rfl) vt68 (fun W hW => hW.keep hc521) ?_
              obtain ⟨x524, hx525, hm⟩ := bindE hm
              refine wH_idx (i := 25) (d := 52) (T := 68) (A := A518) (n := (x516).length) (cap := cap519) (kd := .i64) (m := 1) (by kernel_rfl) (qT (qT (qT (qB (qT (qL (qB (qT (qT qZ))))))))) (by kernel_rfl) (by kernel_rfl) sl68 (F523.is hx525) ?_
              refine wH_load1 (i := 26) (d := 53) (T := 2) (ad := (elA A518 1 (1) 0)) (v := .int .i64 (x524)) (by kernel_rfl) (qT (qT (qT (qB (qT (qL (qB (qT (qT qZ))))))))) (by kernel_rfl) (by kernel_rfl) vt2 (fun W hW => Sl.cell (F520.chg hW Dj.nil) hx525 0 (by rfl)) ?_
              refine wH_take [27, 28] [28, 27, 26, 25, 24, 23, 22, 21, 20, 19, 18, 17, 16, 15, 14, 13, 12, 11, 10, 9, 8, 7, 6, 5, 4, 3, 2, 1, 0] [(55, .int .i64 (x400)), (54, .slice A1 (l1).length cap1)] (by kernel_rfl) (qT (qT (qT (qB (qT (qL (qB (qT (qT qZ))))))))) (by kernel_rfl) ?_
              obtain ⟨x526, hx527, hm⟩ := bindE hm
              refine wH_idx (i := 29) (d := 56) (T := 44) (A := A1) (n := (l1).length) (cap := cap1) (kd := .i64) (m := x400) (by kernel_rfl) (qT (qT (qT (qB (qT (qL (qB (qT (qT qZ))))))))) (by kernel_rfl) (by kernel_rfl) sl44 (F403.is hx527) ?_
              obtain ⟨A528, cap529, hc531, F530⟩ := SlR.row Z490 hx527
              have F533 := F530.chg hS Dj.nil
              refine wH_load1 (i := 30) (d := 57) (T := 68) (ad := (elA A1 1 (x400) 0)) (v := .slice A528 (x526).length cap529) (by kernel_rfl) (qT (qT (qT (qB (qT (qL (qB (qT (qT qZ))))))))) (by kernel_rfl) (by kernel_rfl) vt68 (fun W hW => hW.keep hc531) ?_
              obtain ⟨x534, hx535, hm⟩ := bindE hm
              refine wH_idx (i := 31) (d := 58) (T := 68) (A := A528) (n := (x526).length) (cap := cap529) (kd := .i64) (m := 0) (by kernel_rfl) (qT (qT (qT (qB (qT (qL (qB (qT (qT qZ))))))))) (by kernel_rfl) (by kernel_rfl) sl68 (F533.is hx535) ?_
              refine wH_load1 (i := 32) (d := 59) (T := 2) (ad := (elA A528 1 (0) 0)) (v := .int .i64 (x534)) (by kernel_rfl) (qT (qT (qT (qB (qT (qL (qB (qT (qT qZ))))))))) (by kernel_rfl) (by kernel_rfl) vt2 (fun W hW => Sl.cell (F530.chg hW Dj.nil) hx535 0 (by rfl)) ?_
              refine wH_take [33, 34, 35, 36, 37] [37, 36, 35, 34, 33, 32, 31, 30, 29, 28, 27, 26, 25, 24, 23, 22, 21, 20, 19, 18, 17, 16, 15, 14, 13, 12, 11, 10, 9, 8, 7, 6, 5, 4, 3, 2, 1, 0] [(64, .int .i64 (wr ((wr (p0 + x400)) - 1))), (63, .int .i64 (wr (p0 + x400))), (62, .int .i64 (x400)), (61, .int .i64 (p0)), (60, .int .i64 (wr (x534 + 1)))] (by kernel_rfl) (qT (qT (qT (qB (qT (qL (qB (qT (qT qZ))))))))) (by kernel_rfl) ?_
              refine wH_all [38] (by rfl) (by kernel_rfl) (by simp) ⟨⟨by kernel_rfl, ?_⟩, trivial⟩
              obtain ⟨y536, hy537, hm⟩ := bindE hm
              refine wS_calls (d := 65) (f := 88) (vs := [.int .i64 (x524), .int .i64 (wr (x534 + 1)), .int .i64 (wr ((wr (p0 + x400)) - 1))]) (by kernel_rfl) ent88 (c_spec_l00In hy537) ?_
              rintro _ w538 ⟨rfl, hc539⟩
              replace F403 := F403.chg hc539 Dj.nil
              replace F404 := F404.chg hc539 Dj.nil
              replace F496 := F496.chg hc539 Dj.nil
              replace F505 := F505.chg hc539 Dj.nil
              replace F523 := F523.chg hc539 Dj.nil
              replace F533 := F533.chg hc539 Dj.nil
              replace hB := hB.inS hc539 inNil
              have hSz := hS
              replace hS := hS.inS hc539 inNil
              replace hZ := Nat.le_trans hZ hc539.size
              refine ⟨.bool (y536), rfl, ?_⟩
              refine wS_end (by kernel_rfl) ?_
              refine eX_KH hS ?_
              refine wH_take [39, 40, 41] [41, 40, 39, 38, 37, 36, 35, 34, 33, 32, 31, 30, 29, 28, 27, 26, 25, 24, 23, 22, 21, 20, 19, 18, 17, 16, 15, 14, 13, 12, 11, 10, 9, 8, 7, 6, 5, 4, 3, 2, 1, 0] [(68, .bool (!y536)), (67, .bool (!y536)), (66, .bool (!y536))] (by kernel_rfl) (qT (qT (qT (qB (qT (qL (qB (qT (qT qZ))))))))) (by kernel_rfl) ?_
              refine wH_bool (!y536) (fun hb540 => ?_) (fun hb540 => ?_)
              · have hm := condT hb540 hm
                rewrite [hb540]
                refine wH_take [42, 43, 44, 45, 46, 47, 48, 49, 50, 51, 52, 53, 54, 55, 56, 57, 58, 59] [59, 58, 57, 56, 55, 54, 53, 52, 51, 50, 49, 48, 47, 46, 45, 44, 43, 42, 41, 40, 39, 38, 37, 36, 35, 34, 33, 32, 31, 30, 29, 28, 27, 26, 25, 24, 23, 22, 21, 20, 19, 18, 17, 16, 15, 14, 13, 12, 11, 10, 9, 8, 7, 6, 5, 4, 3, 2, 1, 0] [(86, undef), (85, undef), (84, undef), (83, undef), (82, undef), (81, undef), (80, undef), (79, .bool (true)), (78, .bool (true)), (77, undef), (76, undef), (75, undef), (74, undef), (73, undef), (72, undef), (71, undef), (70, undef), (69, undef)] (by kernel_rfl) (qT (qT (qT (qB (qT (qL (qB (qT (qT qZ))))))))) (by kernel_rfl) ?_
                refine wH_done (by kernel_rfl) ?_
                refine eX_tail ?_
                refine wS_pure 3 [(89, .bool (true)), (88, undef), (87, undef)] (by kernel_rfl) ?_
                refine wS_end (by rfl) ?_
                refine eX_then ?_
                refine cW_prune [(0, .int .i64 (p0)), (1, .slice A1 (l1).length cap1), (5, .slice (some ⟨b9, 0, none⟩) (l401).length (Int.toNat (wr ((wr (2 * p0)) - 1)))), (6, .int .i64 (x400)), (89, .bool (true))] (by kernel_rfl) (by kernel_rfl) (fun a541 => ?_)
                refine cW_cond_t (by kernel_rfl) ?_
                refine cW_seq ?_
                refine cW_region ?_
                refine wS_pure 1 [(4, .bool (false))] (by kernel_rfl) ?_
                refine wS_end (by rfl) ?_
                refine eX_then ?_
                refine cW_ret ?_
                refine eX_then_ret ?_
                refine eX_block_ret ?_
                refine eX_then_ret ?_
                have hq : (some (Ctl.out (Sum.inr false)) : Option (Ctl (Int × (List (Bool))) (Sum (Unit) ((Bool))))) = some _ := hm
                replace hq := someE hq
                subst hq
                refine eX_outR hx410 (fun hr => ?_)
                subst hr
                refine eX_block_ret ?_
                refine eX_then_ret ?_
                refine eX_then_ret ?_
                have hq : (some false : Option ((Bool))) = some _ := hm407
                replace hq := someE hq
                subst hq
                refine eX_ret (vs := [.bool (false)]) [.tmp 4] (by rfl) ⟨by (show lkE _ _ _ = _); kernel_rfl, trivial⟩ ?_
                exact ⟨rfl, hB⟩
              · have hm := condF hb540 hm
                rewrite [hb540]
                refine wH_take [42, 43, 44] [44, 43, 42, 41, 40, 39, 38, 37, 36, 35, 34, 33, 32, 31, 30, 29, 28, 27, 26, 25, 24, 23, 22, 21, 20, 19, 18, 17, 16, 15, 14, 13, 12, 11, 10, 9, 8, 7, 6, 5, 4, 3, 2, 1, 0] [(71, .int .i64 (x400)), (70, .slice A1 (l1).length cap1), (69, .slice (some ⟨b9, 0, none⟩) (l401).length (Int.toNat (wr ((wr (2 * p0)) - 1))))] (by kernel_rfl) (qT (qT (qT (qB (qT (qL (qB (qT (qT qZ))))))))) (by kernel_rfl) ?_
                obtain ⟨x542, hx543, hm⟩ := bindE hm
                refine wH_idx (i := 45) (d := 72) (T := 44) (A := A1) (n := (l1).length) (cap := cap1) (kd := .i64) (m := x400) (by kernel_rfl) (qT (qT (qT (qB (qT (qL (qB (qT (qT qZ))))))))) (by kernel_rfl) (by kernel_rfl) sl44 (F403.is hx543) ?_
                obtain ⟨A544, cap545, hc547, F546⟩ := SlR.row Z490 hx543
                have F549 := F546.chg hS Dj.nil
                refine wH_load1 (i := 46) (d := 73) (T := 68) (ad := (elA A1 1 (x400) 0)) (v := .slice A544 (x542).length cap545) (by kernel_rfl) (qT (qT (qT (qB (qT (qL (qB (qT (qT qZ))))))))) (by kernel_rfl) (by kernel_rfl) vt68 (fun W hW => hW.keep hc547) ?_
                obtain ⟨x550, hx551, hm⟩ := bindE hm
                refine wH_idx (i := 47) (d := 74) (T := 68) (A := A544) (n := (x542).length) (cap := cap545) (kd := .i64) (m := 0) (by kernel_rfl) (qT (qT (qT (qB (qT (qL (qB (qT (qT qZ))))))))) (by kernel_rfl) (by kernel_rfl) sl68 (F549.is hx551) ?_
                refine wH_load1 (i := 48) (d := 75) (T := 2) (ad := (elA A544 1 (0) 0)) (v := .int .i64 (x550)) (by kernel_rfl) (qT (qT (qT (qB (qT (qL (qB (qT (qT qZ))))))))) (by kernel_rfl) (by kernel_rfl) vt2 (fun W hW => Sl.cell (F546.chg hW Dj.nil) hx551 0 (by rfl)) ?_
                obtain ⟨x552, hx553, hm⟩ := bindE hm
                refine wH_idx (i := 49) (d := 76) (T := 130) (A := (some ⟨b9, 0, none⟩)) (n := (l401).length) (cap := (Int.toNat (wr ((wr (2 * p0)) - 1)))) (kd := .i64) (m := x550) (by kernel_rfl) (qT (qT (qT (qB (qT (qL (qB (qT (qT qZ))))))))) (by kernel_rfl) (by kernel_rfl) sl130 ((F404.sl encB_ok).is hx553) ?_
                refine wH_load1 (i := 50) (d := 77) (T := 4) (ad := (elA (some ⟨b9, 0, none⟩) 1 (x550) 0)) (v := .bool (x552)) (by kernel_rfl) (qT (qT (qT (qB (qT (qL (qB (qT (qT qZ))))))))) (by kernel_rfl) (by kernel_rfl) vt4 (fun W hW => Sl.cell ((Z491.chg hW Dj.nil).sl encB_ok) hx553 0 (by rfl)) ?_
                refine wH_take [51, 52] [52, 51, 50, 49, 48, 47, 46, 45, 44, 43, 42, 41, 40, 39, 38, 37, 36, 35, 34, 33, 32, 31, 30, 29, 28, 27, 26, 25, 24, 23, 22, 21, 20, 19, 18, 17, 16, 15, 14, 13, 12, 11, 10, 9, 8, 7, 6, 5, 4, 3, 2, 1, 0] [(79, .bool (x552)), (78, .bool (x552))] (by kernel_rfl) (qT (qT (qT (qB (qT (qL (qB (qT (qT qZ))))))))) (by kernel_rfl) ?_
                refine wH_bool x552 (fun hb554 => ?_) (fun hb554 => ?_)
                · have hm := condT hb554 hm
                  rewrite [hb554]
                  refine wH_take [53, 54, 55, 56, 57, 58, 59] [59, 58, 57, 56, 55, 54, 53, 52, 51, 50, 49, 48, 47, 46, 45, 44, 43, 42, 41, 40, 39, 38, 37, 36, 35, 34, 33, 32, 31, 30, 29, 28, 27, 26, 25, 24, 23, 22, 21, 20, 19, 18, 17, 16, 15, 14, 13, 12, 11, 10, 9, 8, 7, 6, 5, 4, 3, 2, 1, 0] [(86, undef), (85, undef), (84, undef), (83, undef), (82, undef), (81, undef), (80, undef)] (by kernel_rfl) (qT (qT (qT (qB (qT (qL (qB (qT (qT qZ))))))))) (by kernel_rfl) ?_
                  refine wH_done (by kernel_rfl) ?_
                  refine eX_tail ?_
                  refine wS_pure 3 [(89, .bool (true)), (88, undef), (87, undef)] (by kernel_rfl) ?_
                  refine wS_end (by rfl) ?_
                  refine eX_then ?_
                  refine cW_prune [(0, .int .i64 (p0)), (1, .slice A1 (l1).length cap1), (5, .slice (some ⟨b9, 0, none⟩) (l401).length (Int.toNat (wr ((wr (2 * p0)) - 1)))), (6, .int .i64 (x400)), (89, .bool (true))] (by kernel_rfl) (by kernel_rfl) (fun a555 => ?_)
                  refine cW_cond_t (by kernel_rfl) ?_
                  refine cW_seq ?_
                  refine cW_region ?_
                  refine wS_pure 1 [(4, .bool (false))] (by kernel_rfl) ?_
                  refine wS_end (by rfl) ?_
                  refine eX_then ?_
                  refine cW_ret ?_
                  refine eX_then_ret ?_
                  refine eX_block_ret ?_
                  refine eX_then_ret ?_
                  have hq : (some (Ctl.out (Sum.inr false)) : Option (Ctl (Int × (List (Bool))) (Sum (Unit) ((Bool))))) = some _ := hm
                  replace hq := someE hq
                  subst hq
                  refine eX_outR hx410 (fun hr => ?_)
                  subst hr
                  refine eX_block_ret ?_
                  refine eX_then_ret ?_
                  refine eX_then_ret ?_
                  have hq : (some false : Option ((Bool))) = some _ := hm407
                  replace hq := someE hq
                  subst hq
                  refine eX_ret (vs := [.bool (false)]) [.tmp 4] (by rfl) ⟨by (show lkE _ _ _ = _); kernel_rfl, trivial⟩ ?_
                  exact ⟨rfl, hB⟩
                · have hm := condF hb554 hm
                  rewrite [hb554]
                  refine wH_take [53, 54, 55] [55, 54, 53, 52, 51, 50, 49, 48, 47, 46, 45, 44, 43, 42, 41, 40, 39, 38, 37, 36, 35, 34, 33, 32, 31, 30, 29, 28, 27, 26, 25, 24, 23, 22, 21, 20, 19, 18, 17, 16, 15, 14, 13, 12, 11, 10, 9, 8, 7, 6, 5, 4, 3, 2, 1, 0] [(82, .int .i64 (x400)), (81, .slice A1 (l1).length cap1), (80, .slice (some ⟨b9, 0, none⟩) (l401).length (Int.toNat (wr ((wr (2 * p0)) - 1))))] (by kernel_rfl) (qT (qT (qT (qB (qT (qL (qB (qT (qT qZ))))))))) (by kernel_rfl) ?_
                  obtain ⟨x556, hx557, hm⟩ := bindE hm
                  refine wH_idx (i := 56) (d := 83) (T := 44) (A := A1) (n := (l1).length) (cap := cap1) (kd := .i64) (m := x400) (by kernel_rfl) (qT (qT (qT (qB (qT (qL (qB (qT (qT qZ))))))))) (by kernel_rfl) (by kernel_rfl) sl44 (F403.is hx557) ?_
                  obtain ⟨A558, cap559, hc561, F560⟩ := SlR.row Z490 hx557
                  have F563 := F560.chg hS Dj.nil
                  refine wH_load1 (i := 57) (d := 84) (T := 68) (ad := (elA A1 1 (x400) 0)) (v := .slice A558 (x556).length cap559) (by kernel_rfl) (qT (qT (qT (qB (qT (qL (qB (qT (qT qZ))))))))) (by kernel_rfl) (by kernel_rfl) vt68 (fun W hW => hW.keep hc561) ?_
                  obtain ⟨x564, hx565, hm⟩ := bindE hm
                  refine wH_idx (i := 58) (d := 85) (T := 68) (A := A558) (n := (x556).length) (cap := cap559) (kd := .i64) (m := 1) (by kernel_rfl) (qT (qT (qT (qB (qT (qL (qB (qT (qT qZ))))))))) (by kernel_rfl) (by kernel_rfl) sl68 (F563.is hx565) ?_
                  refine wH_load1 (i := 59) (d := 86) (T := 2) (ad := (elA A558 1 (1) 0)) (v := .int .i64 (x564)) (by kernel_rfl) (qT (qT (qT (qB (qT (qL (qB (qT (qT qZ))))))))) (by kernel_rfl) (by kernel_rfl) vt2 (fun W hW => Sl.cell (F560.chg hW Dj.nil) hx565 0 (by rfl)) ?_
                  refine wH_done (by kernel_rfl) ?_
                  refine eX_tail ?_
                  obtain ⟨x566, hx567, hm⟩ := bindE hm
                  refine wS_idx (d := 87) (T := 130) (A := (some ⟨b9, 0, none⟩)) (n := (l401).length) (cap := (Int.toNat (wr ((wr (2 * p0)) - 1)))) (kd := .i64) (m := x564) (by kernel_rfl) sl130 ((F404.sl encB_ok).is hx567) ?_
                  refine wS_load1 (d := 88) (T := 4) (ad := (elA (some ⟨b9, 0, none⟩) 1 (x564) 0)) (v := .bool (x566)) (by kernel_rfl) vt4 (Sl.cell (F404.sl encB_ok) hx567 0 (by rfl)) ?_
                  refine wS_pure 1 [(89, .bool (x566))] (by kernel_rfl) ?_
                  refine wS_end (by rfl) ?_
                  refine eX_then ?_
                  refine cW_prune [(0, .int .i64 (p0)), (1, .slice A1 (l1).length cap1), (5, .slice (some ⟨b9, 0, none⟩) (l401).length (Int.toNat (wr ((wr (2 * p0)) - 1)))), (6, .int .i64 (x400)), (89, .bool (x566))] (by kernel_rfl) (by kernel_rfl) (fun a568 => ?_)
                  refine cW_cond (t := x566) (by kernel_rfl) (fun hb569 => ?_) (fun hb569 => ?_)
                  · have hm := condT hb569 hm
                    refine cW_seq ?_
                    refine cW_region ?_
                    refine wS_pure 1 [(4, .bool (false))] (by kernel_rfl) ?_
                    refine wS_end (by rfl) ?_
                    refine eX_then ?_
                    refine cW_ret ?_
                    refine eX_then_ret ?_
                    refine eX_block_ret ?_
                    refine eX_then_ret ?_
                    have hq : (some (Ctl.out (Sum.inr false)) : Option (Ctl (Int × (List (Bool))) (Sum (Unit) ((Bool))))) = some _ := hm
                    replace hq := someE hq
                    subst hq
                    refine eX_outR hx410 (fun hr => ?_)
                    subst hr
                    refine eX_block_ret ?_
                    refine eX_then_ret ?_
                    refine eX_then_ret ?_
                    have hq : (some false : Option ((Bool))) = some _ := hm407
                    replace hq := someE hq
                    subst hq
                    refine eX_ret (vs := [.bool (false)]) [.tmp 4] (by rfl) ⟨by (show lkE _ _ _ = _); kernel_rfl, trivial⟩ ?_
                    exact ⟨rfl, hB⟩
                  · have hm := condF hb569 hm
                    refine cW_skip ?_
                    refine eX_then ?_
                    refine cW_seq ?_
                    refine cW_region ?_
                    refine wS_pure 3 [(92, .int .i64 (x400)), (91, .slice A1 (l1).length cap1), (90, .slice (some ⟨b9, 0, none⟩) (l401).length (Int.toNat (wr ((wr (2 * p0)) - 1))))] (by kernel_rfl) ?_
                    obtain ⟨x570, hx571, hm⟩ := bindE hm
                    refine wS_idx (d := 93) (T := 44) (A := A1) (n := (l1).length) (cap := cap1) (kd := .i64) (m := x400) (by kernel_rfl) sl44 (F403.is hx571) ?_
                    obtain ⟨A572, cap573, hc575, F574⟩ := SlR.row F403 hx571
                    refine wS_load1 (d := 94) (T := 68) (ad := (elA A1 1 (x400) 0)) (v := .slice A572 (x570).length cap573) (by kernel_rfl) vt68 hc575 ?_
                    obtain ⟨x577, hx578, hm⟩ := bindE hm
                    refine wS_idx (d := 95) (T := 68) (A := A572) (n := (x570).length) (cap := cap573) (kd := .i64) (m := 0) (by kernel_rfl) sl68 (F574.is hx578) ?_
                    refine wS_load1 (d := 96) (T := 2) (ad := (elA A572 1 (0) 0)) (v := .int .i64 (x577)) (by kernel_rfl) vt2 (Sl.cell F574 hx578 0 (by rfl)) ?_
                    obtain ⟨x579, hx580, hm⟩ := bindE hm
                    refine wS_idx (d := 97) (T := 130) (A := (some ⟨b9, 0, none⟩)) (n := (l401).length) (cap := (Int.toNat (wr ((wr (2 * p0)) - 1)))) (kd := .i64) (m := x577) (by kernel_rfl) sl130 ((F404.sl encB_ok).is hx580) ?_
                    refine wS_storeEl (x := x579) true (T := 4) (U := 4) (cap := (Int.toNat (wr ((wr (2 * p0)) - 1)))) (j := 0) (A := (some ⟨b9, 0, none⟩)) (v := .bool (true)) (vs := [.bool (true)]) (m := x577) (by kernel_rfl) (by rfl) sz4 (by rfl) encB_ok F404 hx580 (by simp only [List.length_cons, List.length_nil]; omega) (by rfl) ?_
                    intro w581 F582 hc583
                    replace F403 := F403.chg hc583 (Dj.of L1 G11)
                    replace F496 := F496.chg hc583 (Dj.of L1 G11)
                    replace F505 := F505.chg hc583 (Dj.of L1 G11)
                    replace F523 := F523.chg hc583 (Dj.of L1 G11)
                    replace F533 := F533.chg hc583 (Dj.of L1 G11)
                    replace F549 := F549.chg hc583 (Dj.of L1 G11)
                    replace F563 := F563.chg hc583 (Dj.of L1 G11)
                    replace F574 := F574.chg hc583 (Dj.of L1 G11)
                    replace hB := hB.inS hc583 (inLow G11)
                    replace hZ := Nat.le_trans hZ hc583.size
                    clear F404
                    rewrite [show (l401).length = (l401.set (Int.toNat x577) true).length from (List.length_set ..).symm]
                    refine wS_end (by rfl) ?_
                    refine eX_then ?_
                    refine cW_region ?_
                    refine wS_pure 3 [(100, .int .i64 (x400)), (99, .slice A1 (l1).length cap1), (98, .slice (some ⟨b9, 0, none⟩) (l401.set (Int.toNat x577) true).length (Int.toNat (wr ((wr (2 * p0)) - 1))))] (by kernel_rfl) ?_
                    obtain ⟨x584, hx585, hm⟩ := bindE hm
                    refine wS_idx (d := 101) (T := 44) (A := A1) (n := (l1).length) (cap := cap1) (kd := .i64) (m := x400) (by kernel_rfl) sl44 (F403.is hx585) ?_
                    obtain ⟨A586, cap587, hc589, F588⟩ := SlR.row F403 hx585
                    refine wS_load1 (d := 102) (T := 68) (ad := (elA A1 1 (x400) 0)) (v := .slice A586 (x584).length cap587) (by kernel_rfl) vt68 hc589 ?_
                    obtain ⟨x591, hx592, hm⟩ := bindE hm
                    refine wS_idx (d := 103) (T := 68) (A := A586) (n := (x584).length) (cap := cap587) (kd := .i64) (m := 1) (by kernel_rfl) sl68 (F588.is hx592) ?_
                    refine wS_load1 (d := 104) (T := 2) (ad := (elA A586 1 (1) 0)) (v := .int .i64 (x591)) (by kernel_rfl) vt2 (Sl.cell F588 hx592 0 (by rfl)) ?_
                    obtain ⟨x593, hx594, hm⟩ := bindE hm
                    refine wS_idx (d := 105) (T := 130) (A := (some ⟨b9, 0, none⟩)) (n := (l401.set (Int.toNat x577) true).length) (cap := (Int.toNat (wr ((wr (2 * p0)) - 1)))) (kd := .i64) (m := x591) (by kernel_rfl) sl130 ((F582.sl encB_ok).is hx594) ?_
                    refine wS_storeEl (x := x593) true (T := 4) (U := 4) (cap := (Int.toNat (wr ((wr (2 * p0)) - 1)))) (j := 0) (A := (some ⟨b9, 0, none⟩)) (v := .bool (true)) (vs := [.bool (true)]) (m := x591) (by kernel_rfl) (by rfl) sz4 (by rfl) encB_ok F582 hx594 (by simp only [List.length_cons, List.length_nil]; omega) (by rfl) ?_
                    intro w595 F596 hc597
                    replace F403 := F403.chg hc597 (Dj.of L1 G11)
                    replace F496 := F496.chg hc597 (Dj.of L1 G11)
                    replace F505 := F505.chg hc597 (Dj.of L1 G11)
                    replace F523 := F523.chg hc597 (Dj.of L1 G11)
                    replace F533 := F533.chg hc597 (Dj.of L1 G11)
                    replace F549 := F549.chg hc597 (Dj.of L1 G11)
                    replace F563 := F563.chg hc597 (Dj.of L1 G11)
                    replace F574 := F574.chg hc597 (Dj.of L1 G11)
                    replace F588 := F588.chg hc597 (Dj.of L1 G11)
                    replace hB := hB.inS hc597 (inLow G11)
                    replace hZ := Nat.le_trans hZ hc597.size
                    clear F582
                    rewrite [show (l401.set (Int.toNat x577) true).length = ((l401.set (Int.toNat x577) true).set (Int.toNat x591) true).length from (List.length_set ..).symm]
                    refine wS_end (by rfl) ?_
                    refine eX_block ?_
                    refine eX_then ?_
                    refine cW_region ?_
                    refine wS_pure 3 [(6, .int .i64 (wr (x400 + 1))), (26, .int .i64 (wr (x400 + 1))), (25, .int .i64 (x400))] (by kernel_rfl) ?_
                    refine wS_end (by rfl) ?_
                    have hq : (some (Ctl.next ((wr (x400 + 1), (l401.set (Int.toNat x577) true).set (Int.toNat x591) true))) : Option (Ctl (Int × (List (Bool))) (Sum (Unit) ((Bool))))) = some _ := hm
                    replace hq := someE hq
                    subst hq
                    exact eX_next hx410 (fun hst => ⟨wr (x400 + 1), (l401.set (Int.toNat x577) true).set (Int.toNat x591) true, rfl, Fr.of hst (by kernel_rfl), F403, F596, hB, hZ⟩)
        · have hm := condF hb411 hm
          refine cW_exit ?_
          refine eX_then_exit ?_
          have hq : (some (Ctl.out (Sum.inl (()))) : Option (Ctl (Int × (List (Bool))) (Sum (Unit) ((Bool))))) = some _ := hm
          replace hq := someE hq
          subst hq
          refine eX_outX hx410 (fun hr598 => ?_)
          replace hr598 := hr598.symm
          subst hr598
          refine eX_block_hit ?_
          exact eX_J (fun hst => ⟨rfl, Fr.of hst (by kernel_rfl), hB, hZ⟩)
      · rintro a' w397 ⟨hJ, hF398, hB, hZ⟩
        subst hJ
        refine Fr.goX hF398 (by kernel_rfl) ?_
        refine eX_then ?_
        refine cW_seq ?_
        refine cW_region ?_
        refine wS_pure 1 [(4, .bool (true))] (by kernel_rfl) ?_
        refine wS_end (by rfl) ?_
        refine eX_then ?_
        refine cW_ret ?_
        have hq : (some true : Option ((Bool))) = some _ := hm
        replace hq := someE hq
        subst hq
        refine eX_ret (vs := [.bool (true)]) [.tmp 4] (by rfl) ⟨by (show lkE _ _ _ = _); kernel_rfl, trivial⟩ ?_
        exact ⟨rfl, hB⟩

set_option maxRecDepth 100000 in
/-- laws.toInt64S -/
theorem c_laws_toInt64S {w0 : World} {l0 : List (Int)} {A0 : Option Addr} {cap0 : Nat} {fp0 : List Nat} {r : (List (Int))} (hm : m_laws_toInt64S l0 = some r) (F0 : Sl 1 encI w0 fp0 A0 l0) :
    Calls Try.prog 53 #[.slice A0 (l0).length cap0] w0 fun e w' => ∃ A100 cap100 fp100, e = .returned (.slice A100 (r).length cap100) ∧ Ow 1 encI 2 w' fp100 A100 cap100 r ∧ (∀ x ∈ fp100, w0.heap.size ≤ x) ∧ Chg [] w0 w' := by
  have L0 := F0.low
  have hB : Chg [] w0 w0 := Chg.refl _ _
  have hZ := Nat.le_refl w0.heap.size
  unfold m_laws_toInt64S at hm
  refine enterE (N := 22) Try.func53 (by rfl) Try.ntmps53 (by simp) [(0, .slice A0 (l0).length cap0)] (by rfl) (by kernel_rfl) (fun a => ?_)
  refine cW_seq ?_
  refine cW_region ?_
  refine wS_pure 1 [(2, .slice none 0 0)] (by kernel_rfl) ?_
  refine wS_end (by rfl) ?_
  refine eX_then ?_
  refine cW_seq ?_
  refine cW_region ?_
  refine wS_pure 2 [(6, .int .i64 (((l0).length : Int))), (5, .slice A0 (l0).length cap0)] (by kernel_rfl) ?_
  obtain ⟨_, hk2, hm⟩ := bindE hm
  replace hk2 := mkE hk2
  refine wS_make (enc := encI) (x0 := (0 : Int)) (d := 7) (t := 68) (T := 2) (k1 := .i64) (k2 := .i64) (m := ((l0).length : Int)) (by kernel_rfl) el68 encI_ok (by rfl) hk2.1 hk2.2 ?_
  intro b3 w4 G5 F6 hc7
  replace F0 := F0.chg hc7 Dj.nil
  replace hB := hB.inS hc7 inNil
  replace G5 := Nat.le_trans hZ G5
  replace G5 := low1 G5
  replace hZ := Nat.le_trans hZ hc7.size
  refine wS_pure 1 [(3, .slice (some ⟨b3, 0, none⟩) (List.replicate (Int.toNat (((l0).length : Int))) ((0 : Int))).length (Int.toNat (((l0).length : Int))))] (by kernel_rfl) ?_
  refine wS_end (by rfl) ?_
  refine eX_then ?_
  refine cW_seq ?_
  refine cW_seq ?_
  refine cW_region ?_
  refine wS_pure 1 [(4, .int .i64 (0))] (by kernel_rfl) ?_
  refine wS_end (by rfl) ?_
  refine eX_then ?_
  obtain ⟨r43, hr44, hm⟩ := bindE hm
  have hm45 := hm
  refine cW_cut (fun a' w' => ∃ l34 : List (Int), l34 = r43 ∧ Fr 22 [(3, .slice (some ⟨b3, 0, none⟩) (l34).length (Int.toNat (((l0).length : Int))))] a' ∧ Ow 1 encI 2 w' [b3] (some ⟨b3, 0, none⟩) (Int.toNat (((l0).length : Int))) l34 ∧ Chg [] w0 w' ∧ w0.heap.size ≤ w'.heap.size) ?_ ?_
  · refine cW_block ?_
    refine cW_loop _ (fun (s46 : Int × (List (Int))) a' w' => ∃ x38 : Int, ∃ l39 : List (Int), (x38, l39) = s46 ∧ Fr 22 [(0, .slice A0 (l0).length cap0), (3, .slice (some ⟨b3, 0, none⟩) (l39).length (Int.toNat (((l0).length : Int)))), (4, .int .i64 (x38))] a' ∧ Sl 1 encI w' fp0 A0 l0 ∧ Ow 1 encI 2 w' [b3] (some ⟨b3, 0, none⟩) (Int.toNat (((l0).length : Int))) l39 ∧ Chg [] w0 w' ∧ w0.heap.size ≤ w'.heap.size) hr44 (fun hst => ⟨0, List.replicate (Int.toNat (((l0).length : Int))) ((0 : Int)), rfl, Fr.of hst (by kernel_rfl), F0, F6, hB, hZ⟩) ?_
    rintro _ c47 a' w37 ⟨x38, l39, rfl, hF40, F41, F42, hB, hZ⟩ hx48
    refine Fr.goOn hF40 (by kernel_rfl) ?_
    have hm := hx48
    unfold m_laws_toInt64S_s1 at hm
    refine cW_seq ?_
    refine cW_seq ?_
    refine cW_region ?_
    refine wS_pure 4 [(11, .bool (decide (x38 < (((l0).length : Int))))), (10, .int .i64 (((l0).length : Int))), (9, .slice A0 (l0).length cap0), (8, .int .i64 (x38))] (by kernel_rfl) ?_
    refine wS_end (by rfl) ?_
    refine eX_then ?_
    refine cW_cond (t := decide (x38 < (((l0).length : Int)))) (by kernel_rfl) (fun hb49 => ?_) (fun hb49 => ?_)
    · have hm := condT hb49 hm
      refine cW_skip ?_
      refine eX_then ?_
      refine cW_seq ?_
      refine cW_block ?_
      refine cW_region ?_
      refine wS_pure 4 [(17, .int .i64 (x38)), (16, .slice A0 (l0).length cap0), (15, .int .i64 (x38)), (14, .slice (some ⟨b3, 0, none⟩) (l39).length (Int.toNat (((l0).length : Int))))] (by kernel_rfl) ?_
      obtain ⟨x50, hx51, hm⟩ := bindE hm
      refine wS_idx (d := 18) (T := 68) (A := A0) (n := (l0).length) (cap := cap0) (kd := .i64) (m := x38) (by kernel_rfl) sl68 (F41.is hx51) ?_
      refine wS_load1 (d := 19) (T := 2) (ad := (elA A0 1 (x38) 0)) (v := .int .i64 (x50)) (by kernel_rfl) vt2 (Sl.cell F41 hx51 0 (by rfl)) ?_
      obtain ⟨x52, hx53, hm⟩ := bindE hm
      refine wS_idx (d := 20) (T := 68) (A := (some ⟨b3, 0, none⟩)) (n := (l39).length) (cap := (Int.toNat (((l0).length : Int)))) (kd := .i64) (m := x38) (by kernel_rfl) sl68 ((F42.sl encI_ok).is hx53) ?_
      refine wS_storeEl (x := x52) x50 (T := 2) (U := 2) (cap := (Int.toNat (((l0).length : Int)))) (j := 0) (A := (some ⟨b3, 0, none⟩)) (v := .int .i64 (x50)) (vs := [.int .i64 (x50)]) (m := x38) (by kernel_rfl) (by rfl) sz2 (by rfl) encI_ok F42 hx53 (by simp only [List.length_cons, List.length_nil]; omega) (by rfl) ?_
      intro w54 F55 hc56
      replace F41 := F41.chg hc56 (Dj.of L0 G5)
      replace hB := hB.inS hc56 (inLow G5)
      replace hZ := Nat.le_trans hZ hc56.size
      clear F42
      rewrite [show (l39).length = (l39.set (Int.toNat x38) x50).length from (List.length_set ..).symm]
      refine wS_end (by rfl) ?_
      refine eX_block ?_
      refine eX_then ?_
      refine cW_region ?_
      refine wS_pure 3 [(4, .int .i64 (wr (x38 + 1))), (13, .int .i64 (wr (x38 + 1))), (12, .int .i64 (x38))] (by kernel_rfl) ?_
      refine wS_end (by rfl) ?_
      have hq : (some (Ctl.next ((wr (x38 + 1), l39.set (Int.toNat x38) x50))) : Option (Ctl (Int × (List (Int))) ((List (Int))))) = some _ := hm
      replace hq := someE hq
      subst hq
      exact eX_next hx48 (fun hst => ⟨wr (x38 + 1), l39.set (Int.toNat x38) x50, rfl, Fr.of hst (by kernel_rfl), F41, F55, hB, hZ⟩)
    · have hm := condF hb49 hm
      refine cW_exit ?_
      refine eX_then_exit ?_
      have hq : (some (Ctl.out l39) : Option (Ctl (Int × (List (Int))) ((List (Int))))) = some _ := hm
      replace hq := someE hq
      subst hq
      refine eX_outX hx48 (fun hr57 => ?_)
      replace hr57 := hr57.symm
      subst hr57
      refine eX_block_hit ?_
      exact eX_J (fun hst => ⟨l39, rfl, Fr.of hst (by kernel_rfl), F42, hB, hZ⟩)
  · rintro a' w33 ⟨l34, hJ, hF35, F36, hB, hZ⟩
    subst hJ
    refine Fr.goX hF35 (by kernel_rfl) ?_
    refine eX_then ?_
    refine cW_seq ?_
    refine cW_region ?_
    refine wS_pure 2 [(2, .slice (some ⟨b3, 0, none⟩) (l34).length (Int.toNat (((l0).length : Int)))), (21, .slice (some ⟨b3, 0, none⟩) (l34).length (Int.toNat (((l0).length : Int))))] (by kernel_rfl) ?_
    refine wS_end (by rfl) ?_
    refine eX_then ?_
    refine cW_ret ?_
    have hq : (some l34 : Option ((List (Int)))) = some _ := hm
    replace hq := someE hq
    subst hq
    refine eX_ret (vs := [.slice (some ⟨b3, 0, none⟩) (l34).length (Int.toNat (((l0).length : Int)))]) [.tmp 2] (by rfl) ⟨by (show lkE _ _ _ = _); kernel_rfl, trivial⟩ ?_
    exact ⟨(some ⟨b3, 0, none⟩), (Int.toNat (((l0).length : Int))), [b3], rfl, F36, G5, hB⟩

set_option maxRecDepth 100000 in
/-- laws.toInt64SS -/
theorem c_laws_toInt64SS {w0 : World} {l0 : List (List (Int))} {A0 : Option Addr} {cap0 : Nat} {fp0 : List Nat} {r : (List (List (Int)))} (hm : m_laws_toInt64SS l0 = some r) (F0 : SlR 1 encI w0 fp0 A0 l0) :
    Calls Try.prog 38 #[.slice A0 (l0).length cap0] w0 fun e w' => ∃ A100 cap100 fp100 fr100, e = .returned (.slice A100 (r).length cap100) ∧ OwR 1 encI 68 2 w' fp100 fr100 A100 cap100 r ∧ (∀ x ∈ fp100 ++ fr100, w0.heap.size ≤ x) ∧ Chg [] w0 w' := by
  have L0 := F0.low
  have hB : Chg [] w0 w0 := Chg.refl _ _
  have hZ := Nat.le_refl w0.heap.size
  unfold m_laws_toInt64SS at hm
  refine enterE (N := 23) Try.func38 (by rfl) Try.ntmps38 (by simp) [(0, .slice A0 (l0).length cap0)] (by rfl) (by kernel_rfl) (fun a => ?_)
  refine cW_seq ?_
  refine cW_region ?_
  refine wS_pure 1 [(2, .slice none 0 0)] (by kernel_rfl) ?_
  refine wS_end (by rfl) ?_
  refine eX_then ?_
  refine cW_seq ?_
  refine cW_region ?_
  refine wS_pure 2 [(6, .int .i64 (((l0).length : Int))), (5, .slice A0 (l0).length cap0)] (by kernel_rfl) ?_
  obtain ⟨_, hk2, hm⟩ := bindE hm
  replace hk2 := mkE hk2
  refine wS_makeR (T2 := 2) (k := 1) (enc := encI) (d := 7) (t := 44) (T := 68) (k1 := .i64) (k2 := .i64) (m := ((l0).length : Int)) (by kernel_rfl) el44 hk2.1 hk2.2 ?_
  intro b3 w4 G5 F6 hc7
  replace F0 := F0.chg hc7 Dj.nil
  replace hB := hB.inS hc7 inNil
  replace G5 := Nat.le_trans hZ G5
  replace G5 := low1 G5
  replace hZ := Nat.le_trans hZ hc7.size
  replace G5 := lowApp G5 lowNil
  refine wS_pure 1 [(3, .slice (some ⟨b3, 0, none⟩) (List.replicate (Int.toNat (((l0).length : Int))) ([] : List (Int))).length (Int.toNat (((l0).length : Int))))] (by kernel_rfl) ?_
  refine wS_end (by rfl) ?_
  refine eX_then ?_
  refine cW_seq ?_
  refine cW_seq ?_
  refine cW_region ?_
  refine wS_pure 1 [(4, .int .i64 (0))] (by kernel_rfl) ?_
  refine wS_end (by rfl) ?_
  refine eX_then ?_
  obtain ⟨r107, hr108, hm⟩ := bindE hm
  have hm109 := hm
  refine cW_cut (fun a' w' => ∃ l86 : List (List (Int)), ∃ A87 : Option Addr, ∃ cap88 : Nat, ∃ fp89 : List Nat, ∃ fr91 : List Nat, l86 = r107 ∧ Fr 23 [(3, .slice A87 (l86).length cap88)] a' ∧ OwR 1 encI 68 2 w' fp89 fr91 A87 cap88 l86 ∧ (∀ x ∈ (fp89 ++ fr91), w0.heap.size ≤ x) ∧ Chg [] w0 w' ∧ w0.heap.size ≤ w'.heap.size) ?_ ?_
  · refine cW_block ?_
    refine cW_loop _ (fun (s110 : (List (List (Int))) × Int) a' w' => ∃ l96 : List (List (Int)), ∃ A97 : Option Addr, ∃ cap98 : Nat, ∃ fp99 : List Nat, ∃ fr101 : List Nat, ∃ x102 : Int, (l96, x102) = s110 ∧ Fr 23 [(0, .slice A0 (l0).length cap0), (3, .slice A97 (l96).length cap98), (4, .int .i64 (x102))] a' ∧ SlR 1 encI w' fp0 A0 l0 ∧ OwR 1 encI 68 2 w' fp99 fr101 A97 cap98 l96 ∧ (∀ x ∈ (fp99 ++ fr101), w0.heap.size ≤ x) ∧ Chg [] w0 w' ∧ w0.heap.size ≤ w'.heap.size) hr108 (fun hst => ⟨List.replicate (Int.toNat (((l0).length : Int))) ([] : List (Int)), (some ⟨b3, 0, none⟩), (Int.toNat (((l0).length : Int))), [b3], [], 0, rfl, Fr.of hst (by kernel_rfl), F0, F6, G5, hB, hZ⟩) ?_
    rintro _ c111 a' w95 ⟨l96, A97, cap98, fp99, fr101, x102, rfl, hF103, F104, F105, G106, hB, hZ⟩ hx112
    refine Fr.goOn hF103 (by kernel_rfl) ?_
    have hm := hx112
    unfold m_laws_toInt64SS_s1 at hm
    refine cW_seq ?_
    refine cW_seq ?_
    refine cW_region ?_
    refine wS_pure 4 [(11, .bool (decide (x102 < (((l0).length : Int))))), (10, .int .i64 (((l0).length : Int))), (9, .slice A0 (l0).length cap0), (8, .int .i64 (x102))] (by kernel_rfl) ?_
    refine wS_end (by rfl) ?_
    refine eX_then ?_
    refine cW_cond (t := decide (x102 < (((l0).length : Int)))) (by kernel_rfl) (fun hb113 => ?_) (fun hb113 => ?_)
    · have hm := condT hb113 hm
      refine cW_skip ?_
      refine eX_then ?_
      refine cW_seq ?_
      refine cW_block ?_
      refine cW_region ?_
      refine wS_pure 4 [(17, .int .i64 (x102)), (16, .slice A0 (l0).length cap0), (15, .int .i64 (x102)), (14, .slice A97 (l96).length cap98)] (by kernel_rfl) ?_
      obtain ⟨x114, hx115, hm⟩ := bindE hm
      refine wS_idx (d := 18) (T := 44) (A := A0) (n := (l0).length) (cap := cap0) (kd := .i64) (m := x102) (by kernel_rfl) sl44 (F104.is hx115) ?_
      obtain ⟨A116, cap117, hc119, F118⟩ := SlR.row F104 hx115
      refine wS_load1 (d := 19) (T := 68) (ad := (elA A0 1 (x102) 0)) (v := .slice A116 (x114).length cap117) (by kernel_rfl) vt68 hc119 ?_
      obtain ⟨y121, hy122, hm⟩ := bindE hm
      refine wS_calls (d := 20) (f := 53) (vs := [.slice A116 (x114).length cap117]) (by kernel_rfl) ent53 (c_laws_toInt64S hy122 F118) ?_
      rintro _ w123 ⟨A125, cap126, fp127, rfl, F128, G129, hc124⟩
      have D132 : Dj (fp99 ++ fr101) fp127 := Dj.of F105.low G129
      replace F104 := F104.chg hc124 Dj.nil
      replace F105 := F105.chg hc124 Dj.nil
      replace F118 := F118.chg hc124 Dj.nil
      replace hB := hB.inS hc124 inNil
      replace G129 := low_le hZ G129
      replace hZ := Nat.le_trans hZ hc124.size
      refine ⟨.slice A125 (y121).length cap126, rfl, ?_⟩
      obtain ⟨x133, hx134, hm⟩ := bindE hm
      refine wS_idx (d := 21) (T := 44) (A := A97) (n := (l96).length) (cap := cap98) (kd := .i64) (m := x102) (by kernel_rfl) sl44 ((F105.slr encI_ok).is hx134) ?_
      refine wS_storeRow (k := 1) (enc := encI) (x := x133) (l := y121) (T := 68) (U := 68) (cap := cap98) (c := cap126) (A := A97) (B := A125) (m := x102) (by kernel_rfl) sz68 F105 F128 D132 hx134 ?_
      intro w138 F139 hc140
      have G142 := lowApp (low_inl G106) (lowApp (low_inr G106) G129)
      have Dm143 := Dj.inl D132.symm
      replace F104 := F104.chg hc140 (Dj.inl (Dj.of L0 G106))
      replace F118 := F118.chg hc140 (Dj.inl (Dj.of L0 G106))
      replace F128 := F128.chg hc140 (Dj.inl (D132).symm)
      replace hB := hB.inS hc140 (memS_inl (inLow G106))
      replace hZ := Nat.le_trans hZ hc140.size
      replace F128 := (F128.sl encI_ok)
      rewrite [show (l96).length = (l96.set (Int.toNat x102) y121).length from (List.length_set ..).symm]
      refine wS_end (by rfl) ?_
      refine eX_block ?_
      refine eX_then ?_
      refine cW_region ?_
      refine wS_pure 3 [(4, .int .i64 (wr (x102 + 1))), (13, .int .i64 (wr (x102 + 1))), (12, .int .i64 (x102))] (by kernel_rfl) ?_
      refine wS_end (by rfl) ?_
      have hq : (some (Ctl.next ((l96.set (Int.toNat x102) y121, wr (x102 + 1)))) : Option (Ctl ((List (List (Int))) × Int) ((List (List (Int)))))) = some _ := hm
      replace hq := someE hq
      subst hq
      exact eX_next hx112 (fun hst => ⟨l96.set (Int.toNat x102) y121, A97, cap98, fp99, (fr101 ++ fp127), wr (x102 + 1), rfl, Fr.of hst (by kernel_rfl), F104, F139, G142, hB, hZ⟩)
    · have hm := condF hb113 hm
      refine cW_exit ?_
      refine eX_then_exit ?_
      have hq : (some (Ctl.out l96) : Option (Ctl ((List (List (Int))) × Int) ((List (List (Int)))))) = some _ := hm
      replace hq := someE hq
      subst hq
      refine eX_outX hx112 (fun hr144 => ?_)
      replace hr144 := hr144.symm
      subst hr144
      refine eX_block_hit ?_
      exact eX_J (fun hst => ⟨l96, A97, cap98, fp99, fr101, rfl, Fr.of hst (by kernel_rfl), F105, G106, hB, hZ⟩)
  · rintro a' w85 ⟨l86, A87, cap88, fp89, fr91, hJ, hF92, F93, G94, hB, hZ⟩
    subst hJ
    refine Fr.goX hF92 (by kernel_rfl) ?_
    refine eX_then ?_
    refine cW_seq ?_
    refine cW_region ?_
    refine wS_pure 2 [(2, .slice A87 (l86).length cap88), (22, .slice A87 (l86).length cap88)] (by kernel_rfl) ?_
    refine wS_end (by rfl) ?_
    refine eX_then ?_
    refine cW_ret ?_
    have hq : (some l86 : Option ((List (List (Int))))) = some _ := hm
    replace hq := someE hq
    subst hq
    refine eX_ret (vs := [.slice A87 (l86).length cap88]) [.tmp 2] (by rfl) ⟨by (show lkE _ _ _ = _); kernel_rfl, trivial⟩ ?_
    exact ⟨A87, cap88, fp89, fr91, rfl, F93, G94, hB⟩

set_option maxRecDepth 100000 in
/-- impl.IsJoins -/
theorem c_impl_IsJoins {w0 : World} {p0 : Int} {l1 : List (List (Int))} {A1 : Option Addr} {cap1 : Nat} {fp1 : List Nat} {r : (Bool)} (hm : m_impl_IsJoins p0 l1 = some r) (F1 : SlR 1 encI w0 fp1 A1 l1) :
    Calls Try.prog 39 #[.int .i64 (p0), .slice A1 (l1).length cap1] w0 fun e w' => e = .returned (.bool (r)) ∧ Chg [] w0 w' := by
  have L1 := F1.low
  have hB : Chg [] w0 w0 := Chg.refl _ _
  have hZ := Nat.le_refl w0.heap.size
  unfold m_impl_IsJoins at hm
  refine enterE (N := 80) Try.func39 (by rfl) Try.ntmps39 (by simp) [(0, .int .i64 (p0)), (1, .slice A1 (l1).length cap1)] (by rfl) (by kernel_rfl) (fun a => ?_)
  refine cW_seq ?_
  refine cW_region ?_
  refine wS_pure 1 [(4, .bool (false))] (by kernel_rfl) ?_
  refine wS_end (by rfl) ?_
  refine eX_then ?_
  refine cW_seq ?_
  refine cW_seq ?_
  refine cW_region ?_
  refine wS_pure 1 [(8, .int .i64 (p0))] (by kernel_rfl) ?_
  obtain ⟨y2, hy3, hm⟩ := bindE hm
  refine wS_calls (d := 9) (f := 79) (vs := [.int .i64 (p0), .int .i64 (2), .int .i64 (12)]) (by kernel_rfl) ent79 (c_impl_in hy3) ?_
  rintro _ w4 ⟨rfl, hc5⟩
  replace F1 := F1.chg hc5 Dj.nil
  replace hB := hB.inS hc5 inNil
  replace hZ := Nat.le_trans hZ hc5.size
  refine ⟨.bool (y2), rfl, ?_⟩
  refine wS_pure 2 [(11, .bool (!y2)), (10, .bool (!y2))] (by kernel_rfl) ?_
  refine wS_bool (!y2) (fun hb6 => ?_) (fun hb6 => ?_)
  · have hm := condT hb6 hm
    rewrite [hb6]
    refine wS_pure 6 [(17, .bool (true)), (16, undef), (15, undef), (14, undef), (13, undef), (12, undef)] (by kernel_rfl) ?_
    refine wS_end (by rfl) ?_
    refine eX_then ?_
    refine cW_cond_t (by kernel_rfl) ?_
    refine cW_seq ?_
    refine cW_region ?_
    refine wS_pure 1 [(4, .bool (false))] (by kernel_rfl) ?_
    refine wS_end (by rfl) ?_
    refine eX_then ?_
    refine cW_ret ?_
    refine eX_then_ret ?_
    have hq : (some false : Option ((Bool))) = some _ := hm
    replace hq := someE hq
    subst hq
    refine eX_ret (vs := [.bool (false)]) [.tmp 4] (by rfl) ⟨by (show lkE _ _ _ = _); kernel_rfl, trivial⟩ ?_
    exact ⟨rfl, hB⟩
  · have hm := condF hb6 hm
    rewrite [hb6]
    refine wS_pure 6 [(17, .bool ((((l1).length : Int)) != (wr (p0 - 1)))), (16, .bool ((((l1).length : Int)) != (wr (p0 - 1)))), (15, .int .i64 (wr (p0 - 1))), (14, .int .i64 (p0)), (13, .int .i64 (((l1).length : Int))), (12, .slice A1 (l1).length cap1)] (by kernel_rfl) ?_
    refine wS_end (by rfl) ?_
    refine eX_then ?_
    refine cW_cond (t := (((l1).length : Int)) != (wr (p0 - 1))) (by kernel_rfl) (fun hb7 => ?_) (fun hb7 => ?_)
    · have hm := condT hb7 hm
      refine cW_seq ?_
      refine cW_region ?_
      refine wS_pure 1 [(4, .bool (false))] (by kernel_rfl) ?_
      refine wS_end (by rfl) ?_
      refine eX_then ?_
      refine cW_ret ?_
      refine eX_then_ret ?_
      have hq : (some false : Option ((Bool))) = some _ := hm
      replace hq := someE hq
      subst hq
      refine eX_ret (vs := [.bool (false)]) [.tmp 4] (by rfl) ⟨by (show lkE _ _ _ = _); kernel_rfl, trivial⟩ ?_
      exact ⟨rfl, hB⟩
    · have hm := condF hb7 hm
      refine cW_skip ?_
      refine eX_then ?_
      refine cW_seq ?_
      refine cW_region ?_
      refine wS_makeMap (V := Bool) (d := 18) (T := 103) (by kernel_rfl) okI kI vB ?_
      intro b8 w9 G10 F11 hc12
      replace F1 := F1.chg hc12 Dj.nil
      replace hB := hB.inS hc12 inNil
      replace G10 := Nat.le_trans hZ G10
      replace G10 := low1 G10
      replace hZ := Nat.le_trans hZ hc12.size
      refine wS_pure 1 [(5, .map (some b8))] (by kernel_rfl) ?_
      refine wS_end (by rfl) ?_
      refine eX_then ?_
      refine cW_seq ?_
      refine cW_seq ?_
      refine cW_region ?_
      refine wS_pure 3 [(21, .int .i64 (0)), (20, .int .i64 (((l1).length : Int))), (19, .slice A1 (l1).length cap1)] (by kernel_rfl) ?_
      refine wS_end (by rfl) ?_
      refine eX_then ?_
      obtain ⟨r272, hr273, hm⟩ := bindE hm
      have hm274 := hm
      refine cW_cut (fun a' w' => Sum.inl (()) = r272 ∧ Fr 80 [] a' ∧ Chg [] w0 w' ∧ w0.heap.size ≤ w'.heap.size) ?_ ?_
      · refine cW_block ?_
        refine cW_loop _ (fun (s275 : Int × (List (Int × Bool))) a' w' => ∃ x267 : Int, ∃ l268 : List (Int × Bool), (x267, l268) = s275 ∧ Fr 80 [(0, .int .i64 (p0)), (5, .map (some b8)), (19, .slice A1 (l1).length cap1), (20, .int .i64 (((l1).length : Int))), (21, .int .i64 (x267))] a' ∧ SlR 1 encI w' fp1 A1 l1 ∧ Mp okI kI vB w' b8 l268 ∧ Chg [] w0 w' ∧ w0.heap.size ≤ w'.heap.size) hr273 (fun hst => ⟨0, ([] : List (Int × Bool)), rfl, Fr.of hst (by kernel_rfl), F1, F11, hB, hZ⟩) ?_
        rintro _ c276 a' w266 ⟨x267, l268, rfl, hF269, F270, F271, hB, hZ⟩ hx277
        refine Fr.goOn hF269 (by kernel_rfl) ?_
        have hm := hx277
        unfold m_impl_IsJoins_s1 at hm
        refine cW_seq ?_
        refine cW_region ?_
        refine wS_pure 1 [(22, .bool (decide (x267 < (((l1).length : Int)))))] (by kernel_rfl) ?_
        refine wS_end (by rfl) ?_
        refine eX_then ?_
        refine cW_seq ?_
        refine cW_cond (t := decide (x267 < (((l1).length : Int)))) (by kernel_rfl) (fun hb278 => ?_) (fun hb278 => ?_)
        · have hm := condT hb278 hm
          refine cW_skip ?_
          refine eX_then ?_
          refine cW_seq ?_
          refine cW_block ?_
          refine cW_seq ?_
          refine cW_region ?_
          refine wS_pure 1 [(23, .int .i64 (x267))] (by kernel_rfl) ?_
          obtain ⟨x279, hx280, hm⟩ := bindE hm
          refine wS_idx (d := 24) (T := 44) (A := A1) (n := (l1).length) (cap := cap1) (kd := .i64) (m := x267) (by kernel_rfl) sl44 (F270.is hx280) ?_
          obtain ⟨A281, cap282, hc284, F283⟩ := SlR.row F270 hx280
          refine wS_load1 (d := 25) (T := 68) (ad := (elA A1 1 (x267) 0)) (v := .slice A281 (x279).length cap282) (by kernel_rfl) vt68 hc284 ?_
          refine wS_pure 2 [(7, .slice A281 (x279).length cap282), (6, .int .i64 (x267))] (by kernel_rfl) ?_
          refine wS_end (by rfl) ?_
          refine eX_then ?_
          refine cW_seq ?_
          refine cW_seq ?_
          refine cW_drawnTail [] 39 (by kernel_rfl) (by kernel_rfl) (fun w312 hc313 => ?_)
          replace F270 := F270.chg hc313 Dj.nil
          replace F271 := F271.chg hc313 Dj.nil
          replace F283 := F283.chg hc313 Dj.nil
          replace hB := hB.inS hc313 inNil
          replace hZ := Nat.le_trans hZ hc313.size
          have hS := Chg.refl [] w312
          have Z314 := F270
          have Z315 := F271
          have Z316 := F283
          refine wH_take [0, 1, 2, 3] [3, 2, 1, 0] [(29, .bool ((((x279).length : Int)) != 2)), (28, .bool ((((x279).length : Int)) != 2)), (27, .int .i64 (((x279).length : Int))), (26, .slice A281 (x279).length cap282)] (by kernel_rfl) (qT (qT (qT (qB (qT (qL (qB (qT (qT qZ))))))))) (by kernel_rfl) ?_
          refine wH_bool ((((x279).length : Int)) != 2) (fun hb317 => ?_) (fun hb317 => ?_)
          · have hm := condT hb317 hm
            rewrite [hb317]
            refine wH_take [4, 5, 6, 7, 8, 9, 10, 11, 12, 13, 14, 15, 16, 17, 18, 19, 20, 21, 22, 23, 24, 25, 26, 27, 28, 29, 30, 31, 32, 33, 34, 35, 36, 37, 38] [38, 37, 36, 35, 34, 33, 32, 31, 30, 29, 28, 27, 26, 25, 24, 23, 22, 21, 20, 19, 18, 17, 16, 15, 14, 13, 12, 11, 10, 9, 8, 7, 6, 5, 4, 3, 2, 1, 0] [(64, undef), (63, undef), (62, undef), (61, undef), (60, .bool (true)), (59, .bool (true)), (58, undef), (57, undef), (56, undef), (55, undef), (54, undef), (53, .bool (true)), (52, .bool (true)), (51, undef), (50, undef), (49, undef), (48, undef), (47, undef), (46, undef), (45, undef), (44, .bool (true)), (43, .bool (true)), (42, undef), (41, undef), (40, undef), (39, undef), (38, undef), (37, undef), (36, undef), (35, .bool (true)), (34, .bool (true)), (33, undef), (32, undef), (31, undef), (30, undef)] (by kernel_rfl) (qT (qT (qT (qB (qT (qL (qB (qT (qT qZ))))))))) (by kernel_rfl) ?_
            refine wH_done (by kernel_rfl) ?_
            refine eX_tail ?_
            refine wS_pure 2 [(66, .bool (true)), (65, undef)] (by kernel_rfl) ?_
            refine wS_end (by rfl) ?_
            refine eX_then ?_
            refine cW_prune [(0, .int .i64 (p0)), (5, .map (some b8)), (7, .slice A281 (x279).length cap282), (19, .slice A1 (l1).length cap1), (20, .int .i64 (((l1).length : Int))), (21, .int .i64 (x267)), (66, .bool (true))] (by kernel_rfl) (by kernel_rfl) (fun a318 => ?_)
            refine cW_cond_t (by kernel_rfl) ?_
            refine cW_seq ?_
            refine cW_region ?_
            refine wS_pure 1 [(4, .bool (false))] (by kernel_rfl) ?_
            refine wS_end (by rfl) ?_
            refine eX_then ?_
            refine cW_ret ?_
            refine eX_then_ret ?_
            refine eX_block_ret ?_
            refine eX_then_ret ?_
            have hq : (some (Ctl.out (Sum.inr false)) : Option (Ctl (Int × (List (Int × Bool))) (Sum (Unit) ((Bool))))) = some _ := hm
            replace hq := someE hq
            subst hq
            refine eX_outR hx277 (fun hr => ?_)
            subst hr
            refine eX_block_ret ?_
            refine eX_then_ret ?_
            refine eX_then_ret ?_
            have hq : (some false : Option ((Bool))) = some _ := hm274
            replace hq := someE hq
            subst hq
            refine eX_ret (vs := [.bool (false)]) [.tmp 4] (by rfl) ⟨by (show lkE _ _ _ = _); kernel_rfl, trivial⟩ ?_
            exact ⟨rfl, hB⟩
          · have hm := condF hb317 hm
            rewrite [hb317]
            refine wH_take [4] [4, 3, 2, 1, 0] [(30, .slice A281 (x279).length cap282)] (by kernel_rfl) (qT (qT (qT (qB (qT (qL (qB (qT (qT qZ))))))))) (by kernel_rfl) ?_
            obtain ⟨x319, hx320, hm⟩ := bindE hm
            refine wH_idx (i := 5) (d := 31) (T := 68) (A := A281) (n := (x279).length) (cap := cap282) (kd := .i64) (m := 0) (by kernel_rfl) (qT (qT (qT (qB (qT (qL (qB (qT (qT qZ))))))))) (by kernel_rfl) (by kernel_rfl) sl68 (F283.is hx320) ?_
            refine wH_load1 (i := 6) (d := 32) (T := 2) (ad := (elA A281 1 (0) 0)) (v := .int .i64 (x319)) (by kernel_rfl) (qT (qT (qT (qB (qT (qL (qB (qT (qT qZ))))))))) (by kernel_rfl) (by kernel_rfl) vt2 (fun W hW => Sl.cell (Z316.chg hW Dj.nil) hx320 0 (by rfl)) ?_
            refine wH_take [7, 8, 9] [9, 8, 7, 6, 5, 4, 3, 2, 1, 0] [(35, .bool (decide (x319 < 0))), (34, .bool (decide (x319 < 0))), (33, .bool (decide (x319 < 0)))] (by kernel_rfl) (qT (qT (qT (qB (qT (qL (qB (qT (qT qZ))))))))) (by kernel_rfl) ?_
            refine wH_bool (decide (x319 < 0)) (fun hb321 => ?_) (fun hb321 => ?_)
            · have hm := condT hb321 hm
              rewrite [hb321]
              refine wH_take [10, 11, 12, 13, 14, 15, 16, 17, 18, 19, 20, 21, 22, 23, 24, 25, 26, 27, 28, 29, 30, 31, 32, 33, 34, 35, 36, 37, 38] [38, 37, 36, 35, 34, 33, 32, 31, 30, 29, 28, 27, 26, 25, 24, 23, 22, 21, 20, 19, 18, 17, 16, 15, 14, 13, 12, 11, 10, 9, 8, 7, 6, 5, 4, 3, 2, 1, 0] [(64, undef), (63, undef), (62, undef), (61, undef), (60, .bool (true)), (59, .bool (true)), (58, undef), (57, undef), (56, undef), (55, undef), (54, undef), (53, .bool (true)), (52, .bool (true)), (51, undef), (50, undef), (49, undef), (48, undef), (47, undef), (46, undef), (45, undef), (44, .bool (true)), (43, .bool (true)), (42, undef), (41, undef), (40, undef), (39, undef), (38, undef), (37, undef), (36, undef)] (by kernel_rfl) (qT (qT (qT (qB (qT (qL (qB (qT (qT qZ))))))))) (by kernel_rfl) ?_
              refine wH_done (by kernel_rfl) ?_
              refine eX_tail ?_
              refine wS_pure 2 [(66, .bool (true)), (65, undef)] (by kernel_rfl) ?_
              refine wS_end (by rfl) ?_
              refine eX_then ?_
              refine cW_prune [(0, .int .i64 (p0)), (5, .map (some b8)), (7, .slice A281 (x279).length cap282), (19, .slice A1 (l1).length cap1), (20, .int .i64 (((l1).length : Int))), (21, .int .i64 (x267)), (66, .bool (true))] (by kernel_rfl) (by kernel_rfl) (fun a322 => ?_)
              refine cW_cond_t (by kernel_rfl) ?_
              refine cW_seq ?_
              refine cW_region ?_
              refine wS_pure 1 [(4, .bool (false))] (by kernel_rfl) ?_
              refine wS_end (by rfl) ?_
              refine eX_then ?_
              refine cW_ret ?_
              refine eX_then_ret ?_
              refine eX_block_ret ?_
              refine eX_then_ret ?_
              have hq : (some (Ctl.out (Sum.inr false)) : Option (Ctl (Int × (List (Int × Bool))) (Sum (Unit) ((Bool))))) = some _ := hm
              replace hq := someE hq
              subst hq
              refine eX_outR hx277 (fun hr => ?_)
              subst hr
              refine eX_block_ret ?_
              refine eX_then_ret ?_
              refine eX_then_ret ?_
              have hq : (some false : Option ((Bool))) = some _ := hm274
              replace hq := someE hq
              subst hq
              refine eX_ret (vs := [.bool (false)]) [.tmp 4] (by rfl) ⟨by (show lkE _ _ _ = _); kernel_rfl, trivial⟩ ?_
              exact ⟨rfl, hB⟩
            · have hm := condF hb321 hm
              rewrite [hb321]
              refine wH_take [10] [10, 9, 8, 7, 6, 5, 4, 3, 2, 1, 0] [(36, .slice A281 (x279).length cap282)] (by kernel_rfl) (qT (qT (qT (qB (qT (qL (qB (qT (qT qZ))))))))) (by kernel_rfl) ?_
              obtain ⟨x323, hx324, hm⟩ := bindE hm
              refine wH_idx (i := 11) (d := 37) (T := 68) (A := A281) (n := (x279).length) (cap := cap282) (kd := .i64) (m := 0) (by kernel_rfl) (qT (qT (qT (qB (qT (qL (qB (qT (qT qZ))))))))) (by kernel_rfl) (by kernel_rfl) sl68 (F283.is hx324) ?_
              refine wH_load1 (i := 12) (d := 38) (T := 2) (ad := (elA A281 1 (0) 0)) (v := .int .i64 (x323)) (by kernel_rfl) (qT (qT (qT (qB (qT (qL (qB (qT (qT qZ))))))))) (by kernel_rfl) (by kernel_rfl) vt2 (fun W hW => Sl.cell (Z316.chg hW Dj.nil) hx324 0 (by rfl)) ?_
              refine wH_take [13] [13, 12, 11, 10, 9, 8, 7, 6, 5, 4, 3, 2, 1, 0] [(39, .slice A281 (x279).length cap282)] (by kernel_rfl) (qT (qT (qT (qB (qT (qL (qB (qT (qT qZ))))))))) (by kernel_rfl) ?_
              obtain ⟨x325, hx326, hm⟩ := bindE hm
              refine wH_idx (i := 14) (d := 40) (T := 68) (A := A281) (n := (x279).length) (cap := cap282) (kd := .i64) (m := 1) (by kernel_rfl) (qT (qT (qT (qB (qT (qL (qB (qT (qT qZ))))))))) (by kernel_rfl) (by kernel_rfl) sl68 (F283.is hx326) ?_
              refine wH_load1 (i := 15) (d := 41) (T := 2) (ad := (elA A281 1 (1) 0)) (v := .int .i64 (x325)) (by kernel_rfl) (qT (qT (qT (qB (qT (qL (qB (qT (qT qZ))))))))) (by kernel_rfl) (by kernel_rfl) vt2 (fun W hW => Sl.cell (Z316.chg hW Dj.nil) hx326 0 (by rfl)) ?_
              refine wH_take [16, 17, 18] [18, 17, 16, 15, 14, 13, 12, 11, 10, 9, 8, 7, 6, 5, 4, 3, 2, 1, 0] [(44, .bool (decide (x323 ≥ x325))), (43, .bool (decide (x323 ≥ x325))), (42, .bool (decide (x323 ≥ x325)))] (by kernel_rfl) (qT (qT (qT (qB (qT (qL (qB (qT (qT qZ))))))))) (by kernel_rfl) ?_
              refine wH_bool (decide (x323 ≥ x325)) (fun hb327 => ?_) (fun hb327 => ?_)
              · have hm := condT hb327 hm
                rewrite [hb327]
                refine wH_take [19, 20, 21, 22, 23, 24, 25, 26, 27, 28, 29, 30, 31, 32, 33, 34, 35, 36, 37, 38] [38, 37, 36, 35, 34, 33, 32, 31, 30, 29, 28, 27, 26, 25, 24, 23, 22, 21, 20, 19, 18, 17, 16, 15, 14, 13, 12, 11, 10, 9, 8, 7, 6, 5, 4, 3, 2, 1, 0] [(64, undef), (63, undef), (62, undef), (61, undef), (60, .bool (true)), (59, .bool (true)), (58, undef), (57, undef), (56, undef), (55, undef), (54, undef), (53, .bool (true)), (52, .bool (true)), (51, undef), (50, undef), (49, undef), (48, undef), (47, undef), (46, undef), (45, undef)] (by kernel_rfl) (qT (qT (qT (qB (qT (qL (qB (qT (qT qZ))))))))) (by kernel_rfl) ?_
                refine wH_done (by kernel_rfl) ?_
                refine eX_tail ?_
                refine wS_pure 2 [(66, .bool (true)), (65, undef)] (by kernel_rfl) ?_
                refine wS_end (by rfl) ?_
                refine eX_then ?_
                refine cW_prune [(0, .int .i64 (p0)), (5, .map (some b8)), (7, .slice A281 (x279).length cap282), (19, .slice A1 (l1).length cap1), (20, .int .i64 (((l1).length : Int))), (21, .int .i64 (x267)), (66, .bool (true))] (by kernel_rfl) (by kernel_rfl) (fun a328 => ?_)
                refine cW_cond_t (by kernel_rfl) ?_
                refine cW_seq ?_
                refine cW_region ?_
                refine wS_pure 1 [(4, .bool (false))] (by kernel_rfl) ?_
                refine wS_end (by rfl) ?_
                refine eX_then ?_
                refine cW_ret ?_
                refine eX_then_ret ?_
                refine eX_block_ret ?_
                refine eX_then_ret ?_
                have hq : (some (Ctl.out (Sum.inr false)) : Option (Ctl (Int × (List (Int × Bool))) (Sum (Unit) ((Bool))))) = some _ := hm
                replace hq := someE hq
                subst hq
                refine eX_outR hx277 (fun hr => ?_)
                subst hr
                refine eX_block_ret ?_
                refine eX_then_ret ?_
                refine eX_then_ret ?_
                have hq : (some false : Option ((Bool))) = some _ := hm274
                replace hq := someE hq
                subst hq
                refine eX_ret (vs := [.bool (false)]) [.tmp 4] (by rfl) ⟨by (show lkE _ _ _ = _); kernel_rfl, trivial⟩ ?_
                exact ⟨rfl, hB⟩
              · have hm := condF hb327 hm
                rewrite [hb327]
                refine wH_take [19] [19, 18, 17, 16, 15, 14, 13, 12, 11, 10, 9, 8, 7, 6, 5, 4, 3, 2, 1, 0] [(45, .slice A281 (x279).length cap282)] (by kernel_rfl) (qT (qT (qT (qB (qT (qL (qB (qT (qT qZ))))))))) (by kernel_rfl) ?_
                obtain ⟨x329, hx330, hm⟩ := bindE hm
                refine wH_idx (i := 20) (d := 46) (T := 68) (A := A281) (n := (x279).length) (cap := cap282) (kd := .i64) (m := 1) (by kernel_rfl) (qT (qT (qT (qB (qT (qL (qB (qT (qT qZ))))))))) (by kernel_rfl) (by kernel_rfl) sl68 (F283.is hx330) ?_
                refine wH_load1 (i := 21) (d := 47) (T := 2) (ad := (elA A281 1 (1) 0)) (v := .int .i64 (x329)) (by kernel_rfl) (qT (qT (qT (qB (qT (qL (qB (qT (qT qZ))))))))) (by kernel_rfl) (by kernel_rfl) vt2 (fun W hW => Sl.cell (Z316.chg hW Dj.nil) hx330 0 (by rfl)) ?_
                refine wH_take [22, 23, 24, 25, 26, 27] [27, 26, 25, 24, 23, 22, 21, 20, 19, 18, 17, 16, 15, 14, 13, 12, 11, 10, 9, 8, 7, 6, 5, 4, 3, 2, 1, 0] [(53, .bool (decide (x329 ≥ (wr (p0 + x267))))), (52, .bool (decide (x329 ≥ (wr (p0 + x267))))), (51, .bool (decide (x329 ≥ (wr (p0 + x267))))), (50, .int .i64 (wr (p0 + x267))), (49, .int .i64 (x267)), (48, .int .i64 (p0))] (by kernel_rfl) (qT (qT (qT (qB (qT (qL (qB (qT (qT qZ))))))))) (by kernel_rfl) ?_
                refine wH_bool (decide (x329 ≥ (wr (p0 + x267)))) (fun hb331 => ?_) (fun hb331 => ?_)
                · have hm := condT hb331 hm
                  rewrite [hb331]
                  refine wH_take [28, 29, 30, 31, 32, 33, 34, 35, 36, 37, 38] [38, 37, 36, 35, 34, 33, 32, 31, 30, 29, 28, 27, 26, 25, 24, 23, 22, 21, 20, 19, 18, 17, 16, 15, 14, 13, 12, 11, 10, 9, 8, 7, 6, 5, 4, 3, 2, 1, 0] [(64, undef), (63, undef), (62, undef), (61, undef), (60, .bool (true)), (59, .bool (true)), (58, undef), (57, undef), (56, undef), (55, undef), (54, undef)] (by kernel_rfl) (qT (qT (qT (qB (qT (qL (qB (qT (qT qZ))))))))) (by kernel_rfl) ?_
                  refine wH_done (by kernel_rfl) ?_
                  refine eX_tail ?_
                  refine wS_pure 2 [(66, .bool (true)), (65, undef)] (by kernel_rfl) ?_
                  refine wS_end (by rfl) ?_
                  refine eX_then ?_
                  refine cW_prune [(0, .int .i64 (p0)), (5, .map (some b8)), (7, .slice A281 (x279).length cap282), (19, .slice A1 (l1).length cap1), (20, .int .i64 (((l1).length : Int))), (21, .int .i64 (x267)), (66, .bool (true))] (by kernel_rfl) (by kernel_rfl) (fun a332 => ?_)
                  refine cW_cond_t (by kernel_rfl) ?_
                  refine cW_seq ?_
                  refine cW_region ?_
                  refine wS_pure 1 [(4, .bool (false))] (by kernel_rfl) ?_
                  refine wS_end (by rfl) ?_
                  refine eX_then ?_
                  refine cW_ret ?_
                  refine eX_then_ret ?_
                  refine eX_block_ret ?_
                  refine eX_then_ret ?_
                  have hq : (some (Ctl.out (Sum.inr false)) : Option (Ctl (Int × (List (Int × Bool))) (Sum (Unit) ((Bool))))) = some _ := hm
                  replace hq := someE hq
                  subst hq
                  refine eX_outR hx277 (fun hr => ?_)
                  subst hr
                  refine eX_block_ret ?_
                  refine eX_then_ret ?_
                  refine eX_then_ret ?_
                  have hq : (some false : Option ((Bool))) = some _ := hm274
                  replace hq := someE hq
                  subst hq
                  refine eX_ret (vs := [.bool (false)]) [.tmp 4] (by rfl) ⟨by (show lkE _ _ _ = _); kernel_rfl, trivial⟩ ?_
                  exact ⟨rfl, hB⟩
                · have hm := condF hb331 hm
                  rewrite [hb331]
                  refine wH_take [28, 29] [29, 28, 27, 26, 25, 24, 23, 22, 21, 20, 19, 18, 17, 16, 15, 14, 13, 12, 11, 10, 9, 8, 7, 6, 5, 4, 3, 2, 1, 0] [(55, .slice A281 (x279).length cap282), (54, .map (some b8))] (by kernel_rfl) (qT (qT (qT (qB (qT (qL (qB (qT (qT qZ))))))))) (by kernel_rfl) ?_
                  obtain ⟨x333, hx334, hm⟩ := bindE hm
                  refine wH_idx (i := 30) (d := 56) (T := 68) (A := A281) (n := (x279).length) (cap := cap282) (kd := .i64) (m := 0) (by kernel_rfl) (qT (qT (qT (qB (qT (qL (qB (qT (qT qZ))))))))) (by kernel_rfl) (by kernel_rfl) sl68 (F283.is hx334) ?_
                  refine wH_load1 (i := 31) (d := 57) (T := 2) (ad := (elA A281 1 (0) 0)) (v := .int .i64 (x333)) (by kernel_rfl) (qT (qT (qT (qB (qT (qL (qB (qT (qT qZ))))))))) (by kernel_rfl) (by kernel_rfl) vt2 (fun W hW => Sl.cell (Z316.chg hW Dj.nil) hx334 0 (by rfl)) ?_
                  obtain ⟨y335, hy336, hm⟩ := bindE hm
                  refine wH_look (i := 32) (d := 58) (T := 103) (by kernel_rfl) (qT (qT (qT (qB (qT (qL (qB (qT (qT qZ))))))))) (by kernel_rfl) (by kernel_rfl) mk103 mp103 (fun W hW => Z315.chg hW Dj.nil) hy336 ?_
                  refine wH_take [33, 34] [34, 33, 32, 31, 30, 29, 28, 27, 26, 25, 24, 23, 22, 21, 20, 19, 18, 17, 16, 15, 14, 13, 12, 11, 10, 9, 8, 7, 6, 5, 4, 3, 2, 1, 0] [(60, .bool (y335)), (59, .bool (y335))] (by kernel_rfl) (qT (qT (qT (qB (qT (qL (qB (qT (qT qZ))))))))) (by kernel_rfl) ?_
                  refine wH_bool y335 (fun hb337 => ?_) (fun hb337 => ?_)
                  · have hm := condT hb337 hm
                    rewrite [hb337]
                    refine wH_take [35, 36, 37, 38] [38, 37, 36, 35, 34, 33, 32, 31, 30, 29, 28, 27, 26, 25, 24, 23, 22, 21, 20, 19, 18, 17, 16, 15, 14, 13, 12, 11, 10, 9, 8, 7, 6, 5, 4, 3, 2, 1, 0] [(64, undef), (63, undef), (62, undef), (61, undef)] (by kernel_rfl) (qT (qT (qT (qB (qT (qL (qB (qT (qT qZ))))))))) (by kernel_rfl) ?_
                    refine wH_done (by kernel_rfl) ?_
                    refine eX_tail ?_
                    refine wS_pure 2 [(66, .bool (true)), (65, undef)] (by kernel_rfl) ?_
                    refine wS_end (by rfl) ?_
                    refine eX_then ?_
                    refine cW_prune [(0, .int .i64 (p0)), (5, .map (some b8)), (7, .slice A281 (x279).length cap282), (19, .slice A1 (l1).length cap1), (20, .int .i64 (((l1).length : Int))), (21, .int .i64 (x267)), (66, .bool (true))] (by kernel_rfl) (by kernel_rfl) (fun a338 => ?_)
                    refine cW_cond_t (by kernel_rfl) ?_
                    refine cW_seq ?_
                    refine cW_region ?_
                    refine wS_pure 1 [(4, .bool (false))] (by kernel_rfl) ?_
                    refine wS_end (by rfl) ?_
                    refine eX_then ?_
                    refine cW_ret ?_
                    refine eX_then_ret ?_
                    refine eX_block_ret ?_
                    refine eX_then_ret ?_
                    have hq : (some (Ctl.out (Sum.inr false)) : Option (Ctl (Int × (List (Int × Bool))) (Sum (Unit) ((Bool))))) = some _ := hm
                    replace hq := someE hq
                    subst hq
                    refine eX_outR hx277 (fun hr => ?_)
                    subst hr
                    refine eX_block_ret ?_
                    refine eX_then_ret ?_
                    refine eX_then_ret ?_
                    have hq : (some false : Option ((Bool))) = some _ := hm274
                    replace hq := someE hq
                    subst hq
                    refine eX_ret (vs := [.bool (false)]) [.tmp 4] (by rfl) ⟨by (show lkE _ _ _ = _); kernel_rfl, trivial⟩ ?_
                    exact ⟨rfl, hB⟩
                  · have hm := condF hb337 hm
                    rewrite [hb337]
                    refine wH_take [35, 36] [36, 35, 34, 33, 32, 31, 30, 29, 28, 27, 26, 25, 24, 23, 22, 21, 20, 19, 18, 17, 16, 15, 14, 13, 12, 11, 10, 9, 8, 7, 6, 5, 4, 3, 2, 1, 0] [(62, .slice A281 (x279).length cap282), (61, .map (some b8))] (by kernel_rfl) (qT (qT (qT (qB (qT (qL (qB (qT (qT qZ))))))))) (by kernel_rfl) ?_
                    obtain ⟨x339, hx340, hm⟩ := bindE hm
                    refine wH_idx (i := 37) (d := 63) (T := 68) (A := A281) (n := (x279).length) (cap := cap282) (kd := .i64) (m := 1) (by kernel_rfl) (qT (qT (qT (qB (qT (qL (qB (qT (qT qZ))))))))) (by kernel_rfl) (by kernel_rfl) sl68 (F283.is hx340) ?_
                    refine wH_load1 (i := 38) (d := 64) (T := 2) (ad := (elA A281 1 (1) 0)) (v := .int .i64 (x339)) (by kernel_rfl) (qT (qT (qT (qB (qT (qL (qB (qT (qT qZ))))))))) (by kernel_rfl) (by kernel_rfl) vt2 (fun W hW => Sl.cell (Z316.chg hW Dj.nil) hx340 0 (by rfl)) ?_
                    refine wH_done (by kernel_rfl) ?_
                    refine eX_tail ?_
                    obtain ⟨y341, hy342, hm⟩ := bindE hm
                    refine wS_look (d := 65) (T := 103) (by kernel_rfl) mk103 mp103 F271 hy342 ?_
                    refine wS_pure 1 [(66, .bool (y341))] (by kernel_rfl) ?_
                    refine wS_end (by rfl) ?_
                    refine eX_then ?_
                    refine cW_prune [(0, .int .i64 (p0)), (5, .map (some b8)), (7, .slice A281 (x279).length cap282), (19, .slice A1 (l1).length cap1), (20, .int .i64 (((l1).length : Int))), (21, .int .i64 (x267)), (66, .bool (y341))] (by kernel_rfl) (by kernel_rfl) (fun a343 => ?_)
                    refine cW_cond (t := y341) (by kernel_rfl) (fun hb344 => ?_) (fun hb344 => ?_)
                    · have hm := condT hb344 hm
                      refine cW_seq ?_
                      refine cW_region ?_
                      refine wS_pure 1 [(4, .bool (false))] (by kernel_rfl) ?_
                      refine wS_end (by rfl) ?_
                      refine eX_then ?_
                      refine cW_ret ?_
                      refine eX_then_ret ?_
                      refine eX_block_ret ?_
                      refine eX_then_ret ?_
                      have hq : (some (Ctl.out (Sum.inr false)) : Option (Ctl (Int × (List (Int × Bool))) (Sum (Unit) ((Bool))))) = some _ := hm
                      replace hq := someE hq
                      subst hq
                      refine eX_outR hx277 (fun hr => ?_)
                      subst hr
                      refine eX_block_ret ?_
                      refine eX_then_ret ?_
                      refine eX_then_ret ?_
                      have hq : (some false : Option ((Bool))) = some _ := hm274
                      replace hq := someE hq
                      subst hq
                      refine eX_ret (vs := [.bool (false)]) [.tmp 4] (by rfl) ⟨by (show lkE _ _ _ = _); kernel_rfl, trivial⟩ ?_
                      exact ⟨rfl, hB⟩
                    · have hm := condF hb344 hm
                      refine cW_skip ?_
                      refine eX_then ?_
                      refine cW_drawnTail [b8] 11 (by kernel_rfl) (by kernel_rfl) (fun w372 hc373 => ?_)
                      replace F270 := F270.chg hc373 Dj.nil
                      replace F271 := F271.chg hc373 Dj.nil
                      replace F283 := F283.chg hc373 Dj.nil
                      replace hB := hB.inS hc373 inNil
                      replace hZ := Nat.le_trans hZ hc373.size
                      have hS := Chg.refl [b8] w372
                      have Z374 := F270
                      have Z375 := F271
                      have Z376 := F283
                      refine wH_take [0, 1] [1, 0] [(68, .slice A281 (x279).length cap282), (67, .map (some b8))] (by kernel_rfl) (qT (qB (qT (qL (qB (qT (qT qZ))))))) (by kernel_rfl) ?_
                      obtain ⟨x377, hx378, hm⟩ := bindE hm
                      refine wH_idx (i := 2) (d := 69) (T := 68) (A := A281) (n := (x279).length) (cap := cap282) (kd := .i64) (m := 0) (by kernel_rfl) (qT (qB (qT (qL (qB (qT (qT qZ))))))) (by kernel_rfl) (by kernel_rfl) sl68 (F283.is hx378) ?_
                      refine wH_load1 (i := 3) (d := 70) (T := 2) (ad := (elA A281 1 (0) 0)) (v := .int .i64 (x377)) (by kernel_rfl) (qT (qB (qT (qL (qB (qT (qT qZ))))))) (by kernel_rfl) (by kernel_rfl) vt2 (fun W hW => Sl.cell (Z376.chg hW (Dj.of L1 G10)) hx378 0 (by rfl)) ?_
                      refine wH_take [4, 5] [5, 4, 3, 2, 1, 0] [(72, .slice A281 (x279).length cap282), (71, .map (some b8))] (by kernel_rfl) (qT (qB (qT (qL (qB (qT (qT qZ))))))) (by kernel_rfl) ?_
                      obtain ⟨x379, hx380, hm⟩ := bindE hm
                      refine wH_idx (i := 6) (d := 73) (T := 68) (A := A281) (n := (x279).length) (cap := cap282) (kd := .i64) (m := 1) (by kernel_rfl) (qT (qB (qT (qL (qB (qT (qT qZ))))))) (by kernel_rfl) (by kernel_rfl) sl68 (F283.is hx380) ?_
                      refine wH_load1 (i := 7) (d := 74) (T := 2) (ad := (elA A281 1 (1) 0)) (v := .int .i64 (x379)) (by kernel_rfl) (qT (qB (qT (qL (qB (qT (qT qZ))))))) (by kernel_rfl) (by kernel_rfl) vt2 (fun W hW => Sl.cell (Z376.chg hW (Dj.of L1 G10)) hx380 0 (by rfl)) ?_
                      refine wH_all [8] (by rfl) (by kernel_rfl) (by simp) ⟨⟨by kernel_rfl, ?_⟩, trivial⟩
                      obtain ⟨_, hk381, hm⟩ := bindE hm
                      refine wS_entry (k := x377) (d := 75) (T := 103) (by kernel_rfl) mk103 mp103 F271 (mpE hk381) ?_
                      intro v382 s383 w384 F385 hc386
                      replace F270 := F270.chg hc386 (Dj.of L1 G10)
                      replace F283 := F283.chg hc386 (Dj.of L1 G10)
                      replace hB := hB.inS hc386 (inLow G10)
                      have hSz := hS
                      replace hS := hS.trans hc386
                      replace hZ := Nat.le_trans hZ hc386.size
                      clear F271
                      refine wS_end (by kernel_rfl) ?_
                      refine eX_KH hS ?_
                      refine wH_take [9] [9, 8, 7, 6, 5, 4, 3, 2, 1, 0] [(76, .int .i64 (s383 : Nat))] (by kernel_rfl) (qT (qB (qT (qL (qB (qT (qT qZ))))))) (by kernel_rfl) ?_
                      refine wH_all [10] (by rfl) (by kernel_rfl) (by simp) ⟨⟨by kernel_rfl, ?_⟩, trivial⟩
                      refine wS_eStore (x := true) (T := 103) (by kernel_rfl) (by rfl) mk103 F385 ?_
                      intro w387 F388 hc389
                      replace F270 := F270.chg hc389 (Dj.of L1 G10)
                      replace F283 := F283.chg hc389 (Dj.of L1 G10)
                      replace hB := hB.inS hc389 (inLow G10)
                      have hSz := hS
                      replace hS := hS.trans hc389
                      replace hZ := Nat.le_trans hZ hc389.size
                      clear F385
                      refine wS_end (by kernel_rfl) ?_
                      refine eX_KH hS ?_
                      refine wH_done (by kernel_rfl) ?_
                      refine eX_tail ?_
                      obtain ⟨_, hk390, hm⟩ := bindE hm
                      refine wS_entry (k := x379) (d := 77) (T := 103) (by kernel_rfl) mk103 mp103 F388 (mpE hk390) ?_
                      intro v391 s392 w393 F394 hc395
                      replace F270 := F270.chg hc395 (Dj.of L1 G10)
                      replace F283 := F283.chg hc395 (Dj.of L1 G10)
                      replace hB := hB.inS hc395 (inLow G10)
                      replace hZ := Nat.le_trans hZ hc395.size
                      clear F388
                      refine wS_pure 1 [(78, .int .i64 (s392 : Nat))] (by kernel_rfl) ?_
                      refine wS_eStore (x := true) (T := 103) (by kernel_rfl) (by rfl) mk103 F394 ?_
                      intro w396 F397 hc398
                      replace F270 := F270.chg hc398 (Dj.of L1 G10)
                      replace F283 := F283.chg hc398 (Dj.of L1 G10)
                      replace hB := hB.inS hc398 (inLow G10)
                      replace hZ := Nat.le_trans hZ hc398.size
                      clear F394
                      refine wS_end (by rfl) ?_
                      refine eX_block ?_
                      refine eX_then ?_
                      refine cW_region ?_
                      refine wS_pure 2 [(21, .int .i64 (wr (x267 + 1))), (79, .int .i64 (wr (x267 + 1)))] (by kernel_rfl) ?_
                      refine wS_end (by rfl) ?_
                      have hq : (some (Ctl.next ((wr (x267 + 1), mset (ment false (mset (ment false l268 x377) x377 true) x379) x379 true))) : Option (Ctl (Int × (List (Int × Bool))) (Sum (Unit) ((Bool))))) = some _ := hm
                      replace hq := someE hq
                      subst hq
                      exact eX_next hx277 (fun hst => ⟨wr (x267 + 1), mset (ment false (mset (ment false l268 x377) x377 true) x379) x379 true, rfl, Fr.of hst (by kernel_rfl), F270, F397, hB, hZ⟩)
        · have hm := condF hb278 hm
          refine cW_exit ?_
          refine eX_then_exit ?_
          have hq : (some (Ctl.out (Sum.inl (()))) : Option (Ctl (Int × (List (Int × Bool))) (Sum (Unit) ((Bool))))) = some _ := hm
          replace hq := someE hq
          subst hq
          refine eX_outX hx277 (fun hr399 => ?_)
          replace hr399 := hr399.symm
          subst hr399
          refine eX_block_hit ?_
          exact eX_J (fun hst => ⟨rfl, Fr.of hst (by kernel_rfl), hB, hZ⟩)
      · rintro a' w264 ⟨hJ, hF265, hB, hZ⟩
        subst hJ
        refine Fr.goX hF265 (by kernel_rfl) ?_
        refine eX_then ?_
        refine cW_seq ?_
        refine cW_region ?_
        refine wS_pure 1 [(4, .bool (true))] (by kernel_rfl) ?_
        refine wS_end (by rfl) ?_
        refine eX_then ?_
        refine cW_ret ?_
        have hq : (some true : Option ((Bool))) = some _ := hm
        replace hq := someE hq
        subst hq
        refine eX_ret (vs := [.bool (true)]) [.tmp 4] (by rfl) ⟨by (show lkE _ _ _ = _); kernel_rfl, trivial⟩ ?_
        exact ⟨rfl, hB⟩

set_option maxRecDepth 100000 in
/-- laws.eqInt64S -/
theorem c_laws_eqInt64S {w0 : World} {l0 : List (Int)} {A0 : Option Addr} {cap0 : Nat} {fp0 : List Nat} {l1 : List (Int)} {A1 : Option Addr} {cap1 : Nat} {fp1 : List Nat} {r : (Bool)} (hm : m_laws_eqInt64S l0 l1 = some r) (F0 : Sl 1 encI w0 fp0 A0 l0) (F1 : Sl 1 encI w0 fp1 A1 l1) :
    Calls Try.prog 55 #[.slice A0 (l0).length cap0, .slice A1 (l1).length cap1] w0 fun e w' => e = .returned (.bool (r)) ∧ Chg [] w0 w' := by
  have L0 := F0.low
  have L1 := F1.low
  have hB : Chg [] w0 w0 := Chg.refl _ _
  have hZ := Nat.le_refl w0.heap.size
  unfold m_laws_eqInt64S at hm
  refine enterE (N := 26) Try.func55 (by rfl) Try.ntmps55 (by simp) [(0, .slice A0 (l0).length cap0), (1, .slice A1 (l1).length cap1)] (by rfl) (by kernel_rfl) (fun a => ?_)
  refine cW_seq ?_
  refine cW_region ?_
  refine wS_pure 1 [(4, .bool (false))] (by kernel_rfl) ?_
  refine wS_end (by rfl) ?_
  refine eX_then ?_
  refine cW_seq ?_
  refine cW_seq ?_
  refine cW_region ?_
  refine wS_pure 5 [(10, .bool ((((l0).length : Int)) != (((l1).length : Int)))), (9, .int .i64 (((l1).length : Int))), (8, .slice A1 (l1).length cap1), (7, .int .i64 (((l0).length : Int))), (6, .slice A0 (l0).length cap0)] (by kernel_rfl) ?_
  refine wS_end (by rfl) ?_
  refine eX_then ?_
  refine cW_cond (t := (((l0).length : Int)) != (((l1).length : Int))) (by kernel_rfl) (fun hb3 => ?_) (fun hb3 => ?_)
  · have hm := condT hb3 hm
    refine cW_seq ?_
    refine cW_region ?_
    refine wS_pure 1 [(4, .bool (false))] (by kernel_rfl) ?_
    refine wS_end (by rfl) ?_
    refine eX_then ?_
    refine cW_ret ?_
    refine eX_then_ret ?_
    have hq : (some false : Option ((Bool))) = some _ := hm
    replace hq := someE hq
    subst hq
    refine eX_ret (vs := [.bool (false)]) [.tmp 4] (by rfl) ⟨by (show lkE _ _ _ = _); kernel_rfl, trivial⟩ ?_
    exact ⟨rfl, hB⟩
  · have hm := condF hb3 hm
    refine cW_skip ?_
    refine eX_then ?_
    refine cW_seq ?_
    refine cW_seq ?_
    refine cW_region ?_
    refine wS_pure 1 [(5, .int .i64 (0))] (by kernel_rfl) ?_
    refine wS_end (by rfl) ?_
    refine eX_then ?_
    obtain ⟨r54, hr55, hm⟩ := bindE hm
    have hm56 := hm
    refine cW_cut (fun a' w' => Sum.inl (()) = r54 ∧ Fr 26 [] a' ∧ Chg [] w0 w' ∧ w0.heap.size ≤ w'.heap.size) ?_ ?_
    · refine cW_block ?_
      refine cW_loop _ (fun (s57 : Int) a' w' => ∃ x50 : Int, x50 = s57 ∧ Fr 26 [(0, .slice A0 (l0).length cap0), (1, .slice A1 (l1).length cap1), (5, .int .i64 (x50))] a' ∧ Sl 1 encI w' fp0 A0 l0 ∧ Sl 1 encI w' fp1 A1 l1 ∧ Chg [] w0 w' ∧ w0.heap.size ≤ w'.heap.size) hr55 (fun hst => ⟨0, rfl, Fr.of hst (by kernel_rfl), F0, F1, hB, hZ⟩) ?_
      rintro _ c58 a' w49 ⟨x50, rfl, hF51, F52, F53, hB, hZ⟩ hx59
      refine Fr.goOn hF51 (by kernel_rfl) ?_
      have hm := hx59
      unfold m_laws_eqInt64S_s1 at hm
      refine cW_seq ?_
      refine cW_seq ?_
      refine cW_region ?_
      refine wS_pure 4 [(14, .bool (decide (x50 < (((l0).length : Int))))), (13, .int .i64 (((l0).length : Int))), (12, .slice A0 (l0).length cap0), (11, .int .i64 (x50))] (by kernel_rfl) ?_
      refine wS_end (by rfl) ?_
      refine eX_then ?_
      refine cW_cond (t := decide (x50 < (((l0).length : Int)))) (by kernel_rfl) (fun hb60 => ?_) (fun hb60 => ?_)
      · have hm := condT hb60 hm
        refine cW_skip ?_
        refine eX_then ?_
        refine cW_seq ?_
        refine cW_block ?_
        refine cW_seq ?_
        refine cW_drawnTail [] 8 (by kernel_rfl) (by kernel_rfl) (fun w69 hc70 => ?_)
        replace F52 := F52.chg hc70 Dj.nil
        replace F53 := F53.chg hc70 Dj.nil
        replace hB := hB.inS hc70 inNil
        replace hZ := Nat.le_trans hZ hc70.size
        have hS := Chg.refl [] w69
        have Z71 := F52
        have Z72 := F53
        refine wH_take [0, 1] [1, 0] [(18, .int .i64 (x50)), (17, .slice A0 (l0).length cap0)] (by kernel_rfl) (qT (qT (qB (qT (qL (qB (qT (qT qZ)))))))) (by kernel_rfl) ?_
        obtain ⟨x73, hx74, hm⟩ := bindE hm
        refine wH_idx (i := 2) (d := 19) (T := 68) (A := A0) (n := (l0).length) (cap := cap0) (kd := .i64) (m := x50) (by kernel_rfl) (qT (qT (qB (qT (qL (qB (qT (qT qZ)))))))) (by kernel_rfl) (by kernel_rfl) sl68 (F52.is hx74) ?_
        refine wH_load1 (i := 3) (d := 20) (T := 2) (ad := (elA A0 1 (x50) 0)) (v := .int .i64 (x73)) (by kernel_rfl) (qT (qT (qB (qT (qL (qB (qT (qT qZ)))))))) (by kernel_rfl) (by kernel_rfl) vt2 (fun W hW => Sl.cell (Z71.chg hW Dj.nil) hx74 0 (by rfl)) ?_
        refine wH_take [4, 5] [5, 4, 3, 2, 1, 0] [(22, .int .i64 (x50)), (21, .slice A1 (l1).length cap1)] (by kernel_rfl) (qT (qT (qB (qT (qL (qB (qT (qT qZ)))))))) (by kernel_rfl) ?_
        obtain ⟨x75, hx76, hm⟩ := bindE hm
        refine wH_idx (i := 6) (d := 23) (T := 68) (A := A1) (n := (l1).length) (cap := cap1) (kd := .i64) (m := x50) (by kernel_rfl) (qT (qT (qB (qT (qL (qB (qT (qT qZ)))))))) (by kernel_rfl) (by kernel_rfl) sl68 (F53.is hx76) ?_
        refine wH_load1 (i := 7) (d := 24) (T := 2) (ad := (elA A1 1 (x50) 0)) (v := .int .i64 (x75)) (by kernel_rfl) (qT (qT (qB (qT (qL (qB (qT (qT qZ)))))))) (by kernel_rfl) (by kernel_rfl) vt2 (fun W hW => Sl.cell (Z72.chg hW Dj.nil) hx76 0 (by rfl)) ?_
        refine wH_done (by kernel_rfl) ?_
        refine eX_tail ?_
        refine wS_pure 1 [(25, .bool (x73 != x75))] (by kernel_rfl) ?_
        refine wS_end (by rfl) ?_
        refine eX_then ?_
        refine cW_cond (t := x73 != x75) (by kernel_rfl) (fun hb77 => ?_) (fun hb77 => ?_)
        · have hm := condT hb77 hm
          refine cW_seq ?_
          refine cW_region ?_
          refine wS_pure 1 [(4, .bool (false))] (by kernel_rfl) ?_
          refine wS_end (by rfl) ?_
          refine eX_then ?_
          refine cW_ret ?_
          refine eX_block_ret ?_
          refine eX_then_ret ?_
          have hq : (some (Ctl.out (Sum.inr false)) : Option (Ctl (Int) (Sum (Unit) ((Bool))))) = some _ := hm
          replace hq := someE hq
          subst hq
          refine eX_outR hx59 (fun hr => ?_)
          subst hr
          refine eX_block_ret ?_
          refine eX_then_ret ?_
          refine eX_then_ret ?_
          have hq : (some false : Option ((Bool))) = some _ := hm56
          replace hq := someE hq
          subst hq
          refine eX_ret (vs := [.bool (false)]) [.tmp 4] (by rfl) ⟨by (show lkE _ _ _ = _); kernel_rfl, trivial⟩ ?_
          exact ⟨rfl, hB⟩
        · have hm := condF hb77 hm
          refine cW_skip ?_
          refine eX_block ?_
          refine eX_then ?_
          refine cW_region ?_
          refine wS_pure 3 [(5, .int .i64 (wr (x50 + 1))), (16, .int .i64 (wr (x50 + 1))), (15, .int .i64 (x50))] (by kernel_rfl) ?_
          refine wS_end (by rfl) ?_
          have hq : (some (Ctl.next (wr (x50 + 1))) : Option (Ctl (Int) (Sum (Unit) ((Bool))))) = some _ := hm
          replace hq := someE hq
          subst hq
          exact eX_next hx59 (fun hst => ⟨wr (x50 + 1), rfl, Fr.of hst (by kernel_rfl), F52, F53, hB, hZ⟩)
      · have hm := condF hb60 hm
        refine cW_exit ?_
        refine eX_then_exit ?_
        have hq : (some (Ctl.out (Sum.inl (()))) : Option (Ctl (Int) (Sum (Unit) ((Bool))))) = some _ := hm
        replace hq := someE hq
        subst hq
        refine eX_outX hx59 (fun hr78 => ?_)
        replace hr78 := hr78.symm
        subst hr78
        refine eX_block_hit ?_
        exact eX_J (fun hst => ⟨rfl, Fr.of hst (by kernel_rfl), hB, hZ⟩)
    · rintro a' w47 ⟨hJ, hF48, hB, hZ⟩
      subst hJ
      refine Fr.goX hF48 (by kernel_rfl) ?_
      refine eX_then ?_
      refine cW_seq ?_
      refine cW_region ?_
      refine wS_pure 1 [(4, .bool (true))] (by kernel_rfl) ?_
      refine wS_end (by rfl) ?_
      refine eX_then ?_
      refine cW_ret ?_
      have hq : (some true : Option ((Bool))) = some _ := hm
      replace hq := someE hq
      subst hq
      refine eX_ret (vs := [.bool (true)]) [.tmp 4] (by rfl) ⟨by (show lkE _ _ _ = _); kernel_rfl, trivial⟩ ?_
      exact ⟨rfl, hB⟩

set_option maxRecDepth 100000 in
/-- laws.eqInt64SS -/
theorem c_laws_eqInt64SS {w0 : World} {l0 : List (List (Int))} {A0 : Option Addr} {cap0 : Nat} {fp0 : List Nat} {l1 : List (List (Int))} {A1 : Option Addr} {cap1 : Nat} {fp1 : List Nat} {r : (Bool)} (hm : m_laws_eqInt64SS l0 l1 = some r) (F0 : SlR 1 encI w0 fp0 A0 l0) (F1 : SlR 1 encI w0 fp1 A1 l1) :
    Calls Try.prog 40 #[.slice A0 (l0).length cap0, .slice A1 (l1).length cap1] w0 fun e w' => e = .returned (.bool (r)) ∧ Chg [] w0 w' := by
  have L0 := F0.low
  have L1 := F1.low
  have hB : Chg [] w0 w0 := Chg.refl _ _
  have hZ := Nat.le_refl w0.heap.size
  unfold m_laws_eqInt64SS at hm
  refine enterE (N := 27) Try.func40 (by rfl) Try.ntmps40 (by simp) [(0, .slice A0 (l0).length cap0), (1, .slice A1 (l1).length cap1)] (by rfl) (by kernel_rfl) (fun a => ?_)
  refine cW_seq ?_
  refine cW_region ?_
  refine wS_pure 1 [(4, .bool (false))] (by kernel_rfl) ?_
  refine wS_end (by rfl) ?_
  refine eX_then ?_
  refine cW_seq ?_
  refine cW_seq ?_
  refine cW_region ?_
  refine wS_pure 5 [(10, .bool ((((l0).length : Int)) != (((l1).length : Int)))), (9, .int .i64 (((l1).length : Int))), (8, .slice A1 (l1).length cap1), (7, .int .i64 (((l0).length : Int))), (6, .slice A0 (l0).length cap0)] (by kernel_rfl) ?_
  refine wS_end (by rfl) ?_
  refine eX_then ?_
  refine cW_cond (t := (((l0).length : Int)) != (((l1).length : Int))) (by kernel_rfl) (fun hb3 => ?_) (fun hb3 => ?_)
  · have hm := condT hb3 hm
    refine cW_seq ?_
    refine cW_region ?_
    refine wS_pure 1 [(4, .bool (false))] (by kernel_rfl) ?_
    refine wS_end (by rfl) ?_
    refine eX_then ?_
    refine cW_ret ?_
    refine eX_then_ret ?_
    have hq : (some false : Option ((Bool))) = some _ := hm
    replace hq := someE hq
    subst hq
    refine eX_ret (vs := [.bool (false)]) [.tmp 4] (by rfl) ⟨by (show lkE _ _ _ = _); kernel_rfl, trivial⟩ ?_
    exact ⟨rfl, hB⟩
  · have hm := condF hb3 hm
    refine cW_skip ?_
    refine eX_then ?_
    refine cW_seq ?_
    refine cW_seq ?_
    refine cW_region ?_
    refine wS_pure 1 [(5, .int .i64 (0))] (by kernel_rfl) ?_
    refine wS_end (by rfl) ?_
    refine eX_then ?_
    obtain ⟨r110, hr111, hm⟩ := bindE hm
    have hm112 := hm
    refine cW_cut (fun a' w' => Sum.inl (()) = r110 ∧ Fr 27 [] a' ∧ Chg [] w0 w' ∧ w0.heap.size ≤ w'.heap.size) ?_ ?_
    · refine cW_block ?_
      refine cW_loop _ (fun (s113 : Int) a' w' => ∃ x106 : Int, x106 = s113 ∧ Fr 27 [(0, .slice A0 (l0).length cap0), (1, .slice A1 (l1).length cap1), (5, .int .i64 (x106))] a' ∧ SlR 1 encI w' fp0 A0 l0 ∧ SlR 1 encI w' fp1 A1 l1 ∧ Chg [] w0 w' ∧ w0.heap.size ≤ w'.heap.size) hr111 (fun hst => ⟨0, rfl, Fr.of hst (by kernel_rfl), F0, F1, hB, hZ⟩) ?_
      rintro _ c114 a' w105 ⟨x106, rfl, hF107, F108, F109, hB, hZ⟩ hx115
      refine Fr.goOn hF107 (by kernel_rfl) ?_
      have hm := hx115
      unfold m_laws_eqInt64SS_s1 at hm
      refine cW_seq ?_
      refine cW_seq ?_
      refine cW_region ?_
      refine wS_pure 4 [(14, .bool (decide (x106 < (((l0).length : Int))))), (13, .int .i64 (((l0).length : Int))), (12, .slice A0 (l0).length cap0), (11, .int .i64 (x106))] (by kernel_rfl) ?_
      refine wS_end (by rfl) ?_
      refine eX_then ?_
      refine cW_cond (t := decide (x106 < (((l0).length : Int)))) (by kernel_rfl) (fun hb116 => ?_) (fun hb116 => ?_)
      · have hm := condT hb116 hm
        refine cW_skip ?_
        refine eX_then ?_
        refine cW_seq ?_
        refine cW_block ?_
        refine cW_seq ?_
        refine cW_drawnTail [] 8 (by kernel_rfl) (by kernel_rfl) (fun w139 hc140 => ?_)
        replace F108 := F108.chg hc140 Dj.nil
        replace F109 := F109.chg hc140 Dj.nil
        replace hB := hB.inS hc140 inNil
        replace hZ := Nat.le_trans hZ hc140.size
        have hS := Chg.refl [] w139
        have Z141 := F108
        have Z142 := F109
        refine wH_take [0, 1] [1, 0] [(18, .int .i64 (x106)), (17, .slice A0 (l0).length cap0)] (by kernel_rfl) (qT (qT (qB (qT (qL (qB (qT (qT qZ)))))))) (by kernel_rfl) ?_
        obtain ⟨x143, hx144, hm⟩ := bindE hm
        refine wH_idx (i := 2) (d := 19) (T := 44) (A := A0) (n := (l0).length) (cap := cap0) (kd := .i64) (m := x106) (by kernel_rfl) (qT (qT (qB (qT (qL (qB (qT (qT qZ)))))))) (by kernel_rfl) (by kernel_rfl) sl44 (F108.is hx144) ?_
        obtain ⟨A145, cap146, hc148, F147⟩ := SlR.row Z141 hx144
        refine wH_load1 (i := 3) (d := 20) (T := 68) (ad := (elA A0 1 (x106) 0)) (v := .slice A145 (x143).length cap146) (by kernel_rfl) (qT (qT (qB (qT (qL (qB (qT (qT qZ)))))))) (by kernel_rfl) (by kernel_rfl) vt68 (fun W hW => hW.keep hc148) ?_
        refine wH_take [4, 5] [5, 4, 3, 2, 1, 0] [(22, .int .i64 (x106)), (21, .slice A1 (l1).length cap1)] (by kernel_rfl) (qT (qT (qB (qT (qL (qB (qT (qT qZ)))))))) (by kernel_rfl) ?_
        obtain ⟨x150, hx151, hm⟩ := bindE hm
        refine wH_idx (i := 6) (d := 23) (T := 44) (A := A1) (n := (l1).length) (cap := cap1) (kd := .i64) (m := x106) (by kernel_rfl) (qT (qT (qB (qT (qL (qB (qT (qT qZ)))))))) (by kernel_rfl) (by kernel_rfl) sl44 (F109.is hx151) ?_
        obtain ⟨A152, cap153, hc155, F154⟩ := SlR.row Z142 hx151
        refine wH_load1 (i := 7) (d := 24) (T := 68) (ad := (elA A1 1 (x106) 0)) (v := .slice A152 (x150).length cap153) (by kernel_rfl) (qT (qT (qB (qT (qL (qB (qT (qT qZ)))))))) (by kernel_rfl) (by kernel_rfl) vt68 (fun W hW => hW.keep hc155) ?_
        refine wH_done (by kernel_rfl) ?_
        refine eX_tail ?_
        obtain ⟨y157, hy158, hm⟩ := bindE hm
        refine wS_calls (d := 25) (f := 55) (vs := [.slice A145 (x143).length cap146, .slice A152 (x150).length cap153]) (by kernel_rfl) ent55 (c_laws_eqInt64S hy158 F147 F154) ?_
        rintro _ w159 ⟨rfl, hc160⟩
        replace F108 := F108.chg hc160 Dj.nil
        replace F109 := F109.chg hc160 Dj.nil
        replace F147 := F147.chg hc160 Dj.nil
        replace F154 := F154.chg hc160 Dj.nil
        replace hB := hB.inS hc160 inNil
        replace hZ := Nat.le_trans hZ hc160.size
        refine ⟨.bool (y157), rfl, ?_⟩
        refine wS_pure 1 [(26, .bool (!y157))] (by kernel_rfl) ?_
        refine wS_end (by rfl) ?_
        refine eX_then ?_
        refine cW_cond (t := !y157) (by kernel_rfl) (fun hb161 => ?_) (fun hb161 => ?_)
        · have hm := condT hb161 hm
          refine cW_seq ?_
          refine cW_region ?_
          refine wS_pure 1 [(4, .bool (false))] (by kernel_rfl) ?_
          refine wS_end (by rfl) ?_
          refine eX_then ?_
          refine cW_ret ?_
          refine eX_block_ret ?_
          refine eX_then_ret ?_
          have hq : (some (Ctl.out (Sum.inr false)) : Option (Ctl (Int) (Sum (Unit) ((Bool))))) = some _ := hm
          replace hq := someE hq
          subst hq
          refine eX_outR hx115 (fun hr => ?_)
          subst hr
          refine eX_block_ret ?_
          refine eX_then_ret ?_
          refine eX_then_ret ?_
          have hq : (some false : Option ((Bool))) = some _ := hm112
          replace hq := someE hq
          subst hq
          refine eX_ret (vs := [.bool (false)]) [.tmp 4] (by rfl) ⟨by (show lkE _ _ _ = _); kernel_rfl, trivial⟩ ?_
          exact ⟨rfl, hB⟩
        · have hm := condF hb161 hm
          refine cW_skip ?_
          refine eX_block ?_
          refine eX_then ?_
          refine cW_region ?_
          refine wS_pure 3 [(5, .int .i64 (wr (x106 + 1))), (16, .int .i64 (wr (x106 + 1))), (15, .int .i64 (x106))] (by kernel_rfl) ?_
          refine wS_end (by rfl) ?_
          have hq : (some (Ctl.next (wr (x106 + 1))) : Option (Ctl (Int) (Sum (Unit) ((Bool))))) = some _ := hm
          replace hq := someE hq
          subst hq
          exact eX_next hx115 (fun hst => ⟨wr (x106 + 1), rfl, Fr.of hst (by kernel_rfl), F108, F109, hB, hZ⟩)
      · have hm := condF hb116 hm
        refine cW_exit ?_
        refine eX_then_exit ?_
        have hq : (some (Ctl.out (Sum.inl (()))) : Option (Ctl (Int) (Sum (Unit) ((Bool))))) = some _ := hm
        replace hq := someE hq
        subst hq
        refine eX_outX hx115 (fun hr162 => ?_)
        replace hr162 := hr162.symm
        subst hr162
        refine eX_block_hit ?_
        exact eX_J (fun hst => ⟨rfl, Fr.of hst (by kernel_rfl), hB, hZ⟩)
    · rintro a' w103 ⟨hJ, hF104, hB, hZ⟩
      subst hJ
      refine Fr.goX hF104 (by kernel_rfl) ?_
      refine eX_then ?_
      refine cW_seq ?_
      refine cW_region ?_
      refine wS_pure 1 [(4, .bool (true))] (by kernel_rfl) ?_
      refine wS_end (by rfl) ?_
      refine eX_then ?_
      refine cW_ret ?_
      have hq : (some true : Option ((Bool))) = some _ := hm
      replace hq := someE hq
      subst hq
      refine eX_ret (vs := [.bool (true)]) [.tmp 4] (by rfl) ⟨by (show lkE _ _ _ = _); kernel_rfl, trivial⟩ ?_
      exact ⟨rfl, hB⟩

set_option maxRecDepth 100000 in
/-- impl.mergeOk -/
theorem c_impl_mergeOk {w0 : World} {p0_0 : Int} {p0_1 : Int} {p0_2 : Int} {p0_3 : Int} {p0_4 : Int} {r : (Bool)} (hm : m_impl_mergeOk p0_0 p0_1 p0_2 p0_3 p0_4 = some r)  :
    Calls Try.prog 97 #[.agg #[.int .i64 (p0_0), .int .i64 (p0_1), .int .i64 (p0_2), .int .i64 (p0_3), .int .i64 (p0_4)]] w0 fun e w' => e = .returned (.bool (r)) ∧ Chg [] w0 w' := by
  have hB : Chg [] w0 w0 := Chg.refl _ _
  have hZ := Nat.le_refl w0.heap.size
  unfold m_impl_mergeOk at hm
  refine enterE (N := 11) Try.func97 (by rfl) Try.ntmps97 (by simp) [(0, .agg #[.int .i64 (p0_0), .int .i64 (p0_1), .int .i64 (p0_2), .int .i64 (p0_3), .int .i64 (p0_4)])] (by rfl) (by kernel_rfl) (fun a => ?_)
  refine cW_seq ?_
  refine cW_region ?_
  refine wS_box (d := 1) (T := 52) (x := .agg #[.int .i64 (p0_0), .int .i64 (p0_1), .int .i64 (p0_2), .int .i64 (p0_3), .int .i64 (p0_4)]) (by kernel_rfl) ?_
  intro b1 w2 G3 F4 hc5
  replace F4 : Cl w2 b1 52 [.int .i64 (p0_0), .int .i64 (p0_1), .int .i64 (p0_2), .int .i64 (p0_3), .int .i64 (p0_4)] := F4
  replace hB := hB.inS hc5 inNil
  replace G3 := Nat.le_trans hZ G3
  replace hZ := Nat.le_trans hZ hc5.size
  refine wS_pure 1 [(2, .bool (false))] (by kernel_rfl) ?_
  refine wS_end (by rfl) ?_
  refine eX_then ?_
  refine cW_seq ?_
  refine cW_region ?_
  refine wS_pure 1 [(3, .pointer (some ⟨b1, 0, none⟩))] (by kernel_rfl) ?_
  refine wS_loadA (d := 4) (T := 25) (ad := ⟨b1, 0, none⟩) (vs := [.int .i64 (p0_0), .int .i64 (p0_1), .int .i64 (p0_2), .int .i64 (p0_3)]) (by kernel_rfl) vt25 (fun i u hu => box_cells F4 0 hu (by rfl)) ?_
  obtain ⟨y7, hy8, hm⟩ := bindE hm
  refine wS_calls (d := 5) (f := 23) (vs := [.agg #[.int .i64 (p0_0), .int .i64 (p0_1), .int .i64 (p0_2), .int .i64 (p0_3)]]) (by kernel_rfl) ent23 (c_impl_ValidRegion hy8) ?_
  rintro _ w9 ⟨rfl, hc10⟩
  replace F4 := F4.chg hc10 notNil
  replace hB := hB.inS hc10 inNil
  replace hZ := Nat.le_trans hZ hc10.size
  refine ⟨.bool (y7), rfl, ?_⟩
  refine wS_pure 1 [(6, .bool (y7))] (by kernel_rfl) ?_
  refine wS_bool y7 (fun hb11 => ?_) (fun hb11 => ?_)
  · have hm := condT hb11 hm
    rewrite [hb11]
    refine wS_pure 1 [(7, .pointer (some ⟨b1, 4, none⟩))] (by kernel_rfl) ?_
    refine wS_load1 (d := 8) (T := 2) (ad := ⟨b1, 4, none⟩) (v := .int .i64 (p0_4)) (by kernel_rfl) vt2 ((F4).cell 4) ?_
    obtain ⟨y12, hy13, hm⟩ := bindE hm
    refine wS_calls (d := 9) (f := 79) (vs := [.int .i64 (p0_4), .int .i64 (0), .int .i64 (1000000000)]) (by kernel_rfl) ent79 (c_impl_in hy13) ?_
    rintro _ w14 ⟨rfl, hc15⟩
    replace F4 := F4.chg hc15 notNil
    replace hB := hB.inS hc15 inNil
    replace hZ := Nat.le_trans hZ hc15.size
    refine ⟨.bool (y12), rfl, ?_⟩
    refine wS_pure 2 [(2, .bool (y12)), (10, .bool (y12))] (by kernel_rfl) ?_
    refine wS_end (by rfl) ?_
    refine eX_then ?_
    refine cW_ret ?_
    have hq : (some y12 : Option ((Bool))) = some _ := hm
    replace hq := someE hq
    subst hq
    refine eX_ret (vs := [.bool (y12)]) [.tmp 2] (by rfl) ⟨by (show lkE _ _ _ = _); kernel_rfl, trivial⟩ ?_
    exact ⟨rfl, hB⟩
  · have hm := condF hb11 hm
    rewrite [hb11]
    refine wS_pure 5 [(2, .bool (false)), (10, .bool (false)), (9, undef), (8, undef), (7, undef)] (by kernel_rfl) ?_
    refine wS_end (by rfl) ?_
    refine eX_then ?_
    refine cW_ret ?_
    have hq : (some false : Option ((Bool))) = some _ := hm
    replace hq := someE hq
    subst hq
    refine eX_ret (vs := [.bool (false)]) [.tmp 2] (by rfl) ⟨by (show lkE _ _ _ = _); kernel_rfl, trivial⟩ ?_
    exact ⟨rfl, hB⟩

end Go.Proofs.Ytmodhpgnkbnbaaa
