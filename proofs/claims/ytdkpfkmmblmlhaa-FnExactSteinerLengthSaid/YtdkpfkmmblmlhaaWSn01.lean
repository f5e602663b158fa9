/- Printed walks: laws.szPointS, spec.l00In, spec.l01Point, spec.l00Max, spec.l01Abs, spec.l01Far, spec.l01Index, laws.toPoint, laws.toPointS, impl.in, impl.IsPoint, impl.noPoint, impl.size, impl.far, slices.IndexFunc[[]impl.Point,impl.Point], slices.ContainsFunc[[]impl.Point,impl.Point], laws.eqPoint, laws.eqPointS, spec.l05Is, impl.pinsOk, spec.l00Min, spec.l05Few, spec.l01Before, spec.l01Sorted, spec.l05Hanan, impl.hanan, slices.Index[[]impl.Point,impl.Point], spec.l00Own. -/
import Derived.Test.YtdkpfkmmblmlhaaProg
import Derived.Test.YtdkpfkmmblmlhaaMod
import Derived.Test.YtdkpfkmmblmlhaaEqs
import Derived.Test.YtdkpfkmmblmlhaaSrtC
import Derived.Test.YtdkpfkmmblmlhaaWSo01
set_option linter.unusedSimpArgs false
set_option linter.unusedVariables false
namespace Go.Proofs.Ytdkpfkmmblmlhaa
open Go.RowKit
attribute [local irreducible] wS cW eX wH

theorem ent28 : Ent Try.prog 28 := fun _ => by kernel_rfl
theorem ent42 : Ent Try.prog 42 := fun _ => by kernel_rfl
theorem ent71 : Ent Try.prog 71 := fun _ => by kernel_rfl
theorem ent72 : Ent Try.prog 72 := fun _ => by kernel_rfl
theorem ent74 : Ent Try.prog 74 := fun _ => by kernel_rfl
theorem ent75 : Ent Try.prog 75 := fun _ => by kernel_rfl
theorem ent76 : Ent Try.prog 76 := fun _ => by kernel_rfl
theorem ent79 : Ent Try.prog 79 := fun _ => by kernel_rfl
theorem ent95 : Ent Try.prog 95 := fun _ => by kernel_rfl
theorem ent117 : Ent Try.prog 117 := fun _ => by kernel_rfl
theorem ent118 : Ent Try.prog 118 := fun _ => by kernel_rfl
theorem ent122 : Ent Try.prog 122 := fun _ => by kernel_rfl
theorem ent123 : Ent Try.prog 123 := fun _ => by kernel_rfl
theorem ent125 : Ent Try.prog 125 := fun _ => by kernel_rfl
theorem ent126 : Ent Try.prog 126 := fun _ => by kernel_rfl
theorem ent127 : Ent Try.prog 127 := fun _ => by kernel_rfl
theorem ent148 : Ent Try.prog 148 := fun _ => by kernel_rfl
theorem vt32 : VarTy Try.prog 32 2 true := ⟨by kernel_rfl, by kernel_rfl⟩
theorem sl22 : SlTy Try.prog 22 32 2 := ⟨Try.underlying22, by kernel_rfl⟩
theorem el78 : ElTy Try.prog 78 2 1 (.int .i64 (0)) := ElTy.mk' Try.underlying78 (by kernel_rfl) (by rfl)
theorem sz2 : pureRun Try.prog (sizeOf 2) = some 1 := by kernel_rfl

set_option maxRecDepth 100000 in
/-- laws.szPointS -/
theorem c_laws_szPointS {w0 : World} {l0 : List (Int × Int)} {A0 : Option Addr} {cap0 : Nat} {fp0 : List Nat} {p1 : Int} {r : (Int)} (hm : m_laws_szPointS l0 p1 = some r) (F0 : Sl 2 encII w0 fp0 A0 l0) :
    Calls Try.prog 20 #[.slice A0 (l0).length cap0, .int .i64 (p1)] w0 fun e w' => e = .returned (.int .i64 (r)) ∧ Chg [] w0 w' := by
  have L0 := F0.low
  have hB : Chg [] w0 w0 := Chg.refl _ _
  have hZ := Nat.le_refl w0.heap.size
  unfold m_laws_szPointS at hm
  refine enterE (N := 12) Try.func20 (by rfl) Try.ntmps20 (by simp) [(0, .slice A0 (l0).length cap0), (1, .int .i64 (p1))] (by rfl) (by kernel_rfl) (fun a => ?_)
  refine cW_seq ?_
  refine cW_region ?_
  refine wS_pure 1 [(4, .int .i64 (0))] (by kernel_rfl) ?_
  refine wS_end (by rfl) ?_
  refine eX_then ?_
  refine cW_seq ?_
  refine cW_region ?_
  refine wS_pure 5 [(1, .int .i64 (wr (p1 - (((l0).length : Int))))), (8, .int .i64 (wr (p1 - (((l0).length : Int))))), (7, .int .i64 (((l0).length : Int))), (6, .slice A0 (l0).length cap0), (5, .int .i64 (p1))] (by kernel_rfl) ?_
  refine wS_end (by rfl) ?_
  refine eX_then ?_
  refine cW_seq ?_
  refine cW_seq ?_
  refine cW_region ?_
  refine wS_pure 2 [(10, .bool (decide ((wr (p1 - (((l0).length : Int)))) < 0))), (9, .int .i64 (wr (p1 - (((l0).length : Int)))))] (by kernel_rfl) ?_
  refine wS_end (by rfl) ?_
  refine eX_then ?_
  refine cW_cond (t := decide ((wr (p1 - (((l0).length : Int)))) < 0)) (by kernel_rfl) (fun hb2 => ?_) (fun hb2 => ?_)
  · have hm := condT hb2 hm
    refine cW_seq ?_
    refine cW_region ?_
    refine wS_pure 1 [(4, .int .i64 ((-1)))] (by kernel_rfl) ?_
    refine wS_end (by rfl) ?_
    refine eX_then ?_
    refine cW_ret ?_
    refine eX_then_ret ?_
    have hq : (some ((-1)) : Option ((Int))) = some _ := hm
    replace hq := someE hq
    subst hq
    refine eX_ret (vs := [.int .i64 ((-1))]) [.tmp 4] (by rfl) ⟨by (show lkE _ _ _ = _); kernel_rfl, trivial⟩ ?_
    exact ⟨rfl, hB⟩
  · have hm := condF hb2 hm
    refine cW_skip ?_
    refine eX_then ?_
    refine cW_seq ?_
    refine cW_region ?_
    refine wS_pure 2 [(4, .int .i64 (wr (p1 - (((l0).length : Int))))), (11, .int .i64 (wr (p1 - (((l0).length : Int)))))] (by kernel_rfl) ?_
    refine wS_end (by rfl) ?_
    refine eX_then ?_
    refine cW_ret ?_
    have hq : (some (wr (p1 - (((l0).length : Int)))) : Option ((Int))) = some _ := hm
    replace hq := someE hq
    subst hq
    refine eX_ret (vs := [.int .i64 (wr (p1 - (((l0).length : Int))))]) [.tmp 4] (by rfl) ⟨by (show lkE _ _ _ = _); kernel_rfl, trivial⟩ ?_
    exact ⟨rfl, hB⟩

set_option maxRecDepth 100000 in
/-- spec.l00In -/
theorem c_spec_l00In {w0 : World} {p0 : Int} {p1 : Int} {p2 : Int} {r : (Bool)} (hm : m_spec_l00In p0 p1 p2 = some r)  :
    Calls Try.prog 122 #[.int .i64 (p0), .int .i64 (p1), .int .i64 (p2)] w0 fun e w' => e = .returned (.bool (r)) ∧ Chg [] w0 w' := by
  have hB : Chg [] w0 w0 := Chg.refl _ _
  have hZ := Nat.le_refl w0.heap.size
  unfold m_spec_l00In at hm
  refine enterE (N := 15) Try.func122 (by rfl) Try.ntmps122 (by simp) [(0, .int .i64 (p0)), (1, .int .i64 (p1)), (2, .int .i64 (p2))] (by rfl) (by kernel_rfl) (fun a => ?_)
  refine cW_seq ?_
  refine cW_region ?_
  refine wS_pure 1 [(6, .bool (false))] (by kernel_rfl) ?_
  refine wS_end (by rfl) ?_
  refine eX_then ?_
  refine cW_seq ?_
  refine cW_region ?_
  refine wS_pure 4 [(10, .bool (decide (p0 ≥ p1))), (9, .bool (decide (p0 ≥ p1))), (8, .int .i64 (p1)), (7, .int .i64 (p0))] (by kernel_rfl) ?_
  refine wS_bool (decide (p0 ≥ p1)) (fun hb1 => ?_) (fun hb1 => ?_)
  · have hm := condT hb1 hm
    rewrite [hb1]
    refine wS_pure 5 [(6, .bool (decide (p0 ≤ p2))), (14, .bool (decide (p0 ≤ p2))), (13, .bool (decide (p0 ≤ p2))), (12, .int .i64 (p2)), (11, .int .i64 (p0))] (by kernel_rfl) ?_
    refine wS_end (by rfl) ?_
    refine eX_then ?_
    refine cW_ret ?_
    have hq : (some (decide (p0 ≤ p2)) : Option ((Bool))) = some _ := hm
    replace hq := someE hq
    subst hq
    refine eX_ret (vs := [.bool (decide (p0 ≤ p2))]) [.tmp 6] (by rfl) ⟨by (show lkE _ _ _ = _); kernel_rfl, trivial⟩ ?_
    exact ⟨rfl, hB⟩
  · have hm := condF hb1 hm
    rewrite [hb1]
    refine wS_pure 5 [(6, .bool (false)), (14, .bool (false)), (13, undef), (12, undef), (11, undef)] (by kernel_rfl) ?_
    refine wS_end (by rfl) ?_
    refine eX_then ?_
    refine cW_ret ?_
    have hq : (some false : Option ((Bool))) = some _ := hm
    replace hq := someE hq
    subst hq
    refine eX_ret (vs := [.bool (false)]) [.tmp 6] (by rfl) ⟨by (show lkE _ _ _ = _); kernel_rfl, trivial⟩ ?_
    exact ⟨rfl, hB⟩

set_option maxRecDepth 100000 in
/-- spec.l01Point -/
theorem c_spec_l01Point {w0 : World} {p0_0 : Int} {p0_1 : Int} {r : (Bool)} (hm : m_spec_l01Point p0_0 p0_1 = some r)  :
    Calls Try.prog 76 #[.agg #[.int .i64 (p0_0), .int .i64 (p0_1)]] w0 fun e w' => e = .returned (.bool (r)) ∧ Chg [] w0 w' := by
  have hB : Chg [] w0 w0 := Chg.refl _ _
  have hZ := Nat.le_refl w0.heap.size
  unfold m_spec_l01Point at hm
  refine enterE (N := 11) Try.func76 (by rfl) Try.ntmps76 (by simp) [(0, .agg #[.int .i64 (p0_0), .int .i64 (p0_1)])] (by rfl) (by kernel_rfl) (fun a => ?_)
  refine cW_seq ?_
  refine cW_region ?_
  refine wS_box (d := 1) (T := 34) (x := .agg #[.int .i64 (p0_0), .int .i64 (p0_1)]) (by kernel_rfl) ?_
  intro b1 w2 G3 F4 hc5
  replace F4 : Cl w2 b1 34 [.int .i64 (p0_0), .int .i64 (p0_1)] := F4
  replace hB := hB.inS hc5 inNil
  replace G3 := Nat.le_trans hZ G3
  replace hZ := Nat.le_trans hZ hc5.size
  refine wS_pure 1 [(2, .bool (false))] (by kernel_rfl) ?_
  refine wS_end (by rfl) ?_
  refine eX_then ?_
  refine cW_seq ?_
  refine cW_region ?_
  refine wS_pure 1 [(3, .pointer (some ⟨b1, 0, none⟩))] (by kernel_rfl) ?_
  refine wS_load1 (d := 4) (T := 2) (ad := ⟨b1, 0, none⟩) (v := .int .i64 (p0_0)) (by kernel_rfl) vt2 ((F4).cell 0) ?_
  obtain ⟨y7, hy8, hm⟩ := bindE hm
  refine wS_calls (d := 5) (f := 122) (vs := [.int .i64 (p0_0), .int .i64 (0), .int .i64 (99)]) (by kernel_rfl) ent122 (c_spec_l00In hy8) ?_
  rintro _ w9 ⟨rfl, hc10⟩
  replace F4 := F4.chg hc10 notNil
  replace hB := hB.inS hc10 inNil
  replace hZ := Nat.le_trans hZ hc10.size
  refine ⟨.bool (y7), rfl, ?_⟩
  refine wS_pure 1 [(6, .bool (y7))] (by kernel_rfl) ?_
  refine wS_bool y7 (fun hb11 => ?_) (fun hb11 => ?_)
  · have hm := condT hb11 hm
    rewrite [hb11]
    refine wS_pure 1 [(7, .pointer (some ⟨b1, 1, none⟩))] (by kernel_rfl) ?_
    refine wS_load1 (d := 8) (T := 2) (ad := ⟨b1, 1, none⟩) (v := .int .i64 (p0_1)) (by kernel_rfl) vt2 ((F4).cell 1) ?_
    obtain ⟨y12, hy13, hm⟩ := bindE hm
    refine wS_calls (d := 9) (f := 122) (vs := [.int .i64 (p0_1), .int .i64 (0), .int .i64 (99)]) (by kernel_rfl) ent122 (c_spec_l00In hy13) ?_
    rintro _ w14 ⟨rfl, hc15⟩
    replace F4 := F4.chg hc15 notNil
    replace hB := hB.inS hc15 inNil
    replace hZ := Nat.le_trans hZ hc15.size
    refine ⟨.bool (y12), rfl, ?_⟩
    refine wS_pure 2 [(2, .bool (y12)), (10, .bool (y12))] (by kernel_rfl) ?_
    refine wS_end (by rfl) ?_
    refine eX_then ?_
    refine cW_ret ?_
    have hq : (some y12 : Option ((Bool))) = some _ := hm
    replace hq := someE hq
    subst hq
    refine eX_ret (vs := [.bool (y12)]) [.tmp 2] (by rfl) ⟨by (show lkE _ _ _ = _); kernel_rfl, trivial⟩ ?_
    exact ⟨rfl, hB⟩
  · have hm := condF hb11 hm
    rewrite [hb11]
    refine wS_pure 5 [(2, .bool (false)), (10, .bool (false)), (9, undef), (8, undef), (7, undef)] (by kernel_rfl) ?_
    refine wS_end (by rfl) ?_
    refine eX_then ?_
    refine cW_ret ?_
    have hq : (some false : Option ((Bool))) = some _ := hm
    replace hq := someE hq
    subst hq
    refine eX_ret (vs := [.bool (false)]) [.tmp 2] (by rfl) ⟨by (show lkE _ _ _ = _); kernel_rfl, trivial⟩ ?_
    exact ⟨rfl, hB⟩

set_option maxRecDepth 100000 in
/-- spec.l00Max -/
theorem c_spec_l00Max {w0 : World} {p0 : Int} {p1 : Int} {r : (Int)} (hm : m_spec_l00Max p0 p1 = some r)  :
    Calls Try.prog 125 #[.int .i64 (p0), .int .i64 (p1)] w0 fun e w' => e = .returned (.int .i64 (r)) ∧ Chg [] w0 w' := by
  have hB : Chg [] w0 w0 := Chg.refl _ _
  have hZ := Nat.le_refl w0.heap.size
  unfold m_spec_l00Max at hm
  refine enterE (N := 10) Try.func125 (by rfl) Try.ntmps125 (by simp) [(0, .int .i64 (p0)), (1, .int .i64 (p1))] (by rfl) (by kernel_rfl) (fun a => ?_)
  refine cW_seq ?_
  refine cW_region ?_
  refine wS_pure 1 [(4, .int .i64 (0))] (by kernel_rfl) ?_
  refine wS_end (by rfl) ?_
  refine eX_then ?_
  refine cW_seq ?_
  refine cW_seq ?_
  refine cW_region ?_
  refine wS_pure 3 [(7, .bool (decide (p0 > p1))), (6, .int .i64 (p1)), (5, .int .i64 (p0))] (by kernel_rfl) ?_
  refine wS_end (by rfl) ?_
  refine eX_then ?_
  refine cW_cond (t := decide (p0 > p1)) (by kernel_rfl) (fun hb1 => ?_) (fun hb1 => ?_)
  · have hm := condT hb1 hm
    refine cW_seq ?_
    refine cW_region ?_
    refine wS_pure 2 [(4, .int .i64 (p0)), (8, .int .i64 (p0))] (by kernel_rfl) ?_
    refine wS_end (by rfl) ?_
    refine eX_then ?_
    refine cW_ret ?_
    refine eX_then_ret ?_
    have hq : (some p0 : Option ((Int))) = some _ := hm
    replace hq := someE hq
    subst hq
    refine eX_ret (vs := [.int .i64 (p0)]) [.tmp 4] (by rfl) ⟨by (show lkE _ _ _ = _); kernel_rfl, trivial⟩ ?_
    exact ⟨rfl, hB⟩
  · have hm := condF hb1 hm
    refine cW_skip ?_
    refine eX_then ?_
    refine cW_seq ?_
    refine cW_region ?_
    refine wS_pure 2 [(4, .int .i64 (p1)), (9, .int .i64 (p1))] (by kernel_rfl) ?_
    refine wS_end (by rfl) ?_
    refine eX_then ?_
    refine cW_ret ?_
    have hq : (some p1 : Option ((Int))) = some _ := hm
    replace hq := someE hq
    subst hq
    refine eX_ret (vs := [.int .i64 (p1)]) [.tmp 4] (by rfl) ⟨by (show lkE _ _ _ = _); kernel_rfl, trivial⟩ ?_
    exact ⟨rfl, hB⟩

set_option maxRecDepth 100000 in
/-- spec.l01Abs -/
theorem c_spec_l01Abs {w0 : World} {p0 : Int} {r : (Int)} (hm : m_spec_l01Abs p0 = some r)  :
    Calls Try.prog 126 #[.int .i64 (p0)] w0 fun e w' => e = .returned (.int .i64 (r)) ∧ Chg [] w0 w' := by
  have hB : Chg [] w0 w0 := Chg.refl _ _
  have hZ := Nat.le_refl w0.heap.size
  unfold m_spec_l01Abs at hm
  refine enterE (N := 7) Try.func126 (by rfl) Try.ntmps126 (by simp) [(0, .int .i64 (p0))] (by rfl) (by kernel_rfl) (fun a => ?_)
  refine cW_seq ?_
  refine cW_region ?_
  refine wS_pure 1 [(2, .int .i64 (0))] (by kernel_rfl) ?_
  refine wS_end (by rfl) ?_
  refine eX_then ?_
  refine cW_seq ?_
  refine cW_region ?_
  refine wS_pure 3 [(5, .int .i64 (wr (0 - p0))), (4, .int .i64 (p0)), (3, .int .i64 (p0))] (by kernel_rfl) ?_
  obtain ⟨y1, hy2, hm⟩ := bindE hm
  refine wS_calls (d := 6) (f := 125) (vs := [.int .i64 (p0), .int .i64 (wr (0 - p0))]) (by kernel_rfl) ent125 (c_spec_l00Max hy2) ?_
  rintro _ w3 ⟨rfl, hc4⟩
  replace hB := hB.inS hc4 inNil
  replace hZ := Nat.le_trans hZ hc4.size
  refine ⟨.int .i64 (y1), rfl, ?_⟩
  refine wS_pure 1 [(2, .int .i64 (y1))] (by kernel_rfl) ?_
  refine wS_end (by rfl) ?_
  refine eX_then ?_
  refine cW_ret ?_
  have hq : (some y1 : Option ((Int))) = some _ := hm
  replace hq := someE hq
  subst hq
  refine eX_ret (vs := [.int .i64 (y1)]) [.tmp 2] (by rfl) ⟨by (show lkE _ _ _ = _); kernel_rfl, trivial⟩ ?_
  exact ⟨rfl, hB⟩

set_option maxRecDepth 100000 in
/-- spec.l01Far -/
theorem c_spec_l01Far {w0 : World} {p0_0 : Int} {p0_1 : Int} {p1_0 : Int} {p1_1 : Int} {r : (Int)} (hm : m_spec_l01Far p0_0 p0_1 p1_0 p1_1 = some r)  :
    Calls Try.prog 84 #[.agg #[.int .i64 (p0_0), .int .i64 (p0_1)], .agg #[.int .i64 (p1_0), .int .i64 (p1_1)]] w0 fun e w' => e = .returned (.int .i64 (r)) ∧ Chg [] w0 w' := by
  have hB : Chg [] w0 w0 := Chg.refl _ _
  have hZ := Nat.le_refl w0.heap.size
  unfold m_spec_l01Far at hm
  refine enterE (N := 18) Try.func84 (by rfl) Try.ntmps84 (by simp) [(0, .agg #[.int .i64 (p0_0), .int .i64 (p0_1)]), (1, .agg #[.int .i64 (p1_0), .int .i64 (p1_1)])] (by rfl) (by kernel_rfl) (fun a => ?_)
  refine cW_seq ?_
  refine cW_region ?_
  refine wS_box (d := 2) (T := 34) (x := .agg #[.int .i64 (p0_0), .int .i64 (p0_1)]) (by kernel_rfl) ?_
  intro b1 w2 G3 F4 hc5
  replace F4 : Cl w2 b1 34 [.int .i64 (p0_0), .int .i64 (p0_1)] := F4
  replace hB := hB.inS hc5 inNil
  replace G3 := Nat.le_trans hZ G3
  replace hZ := Nat.le_trans hZ hc5.size
  refine wS_box (d := 3) (T := 34) (x := .agg #[.int .i64 (p1_0), .int .i64 (p1_1)]) (by kernel_rfl) ?_
  intro b7 w8 G9 F10 hc11
  replace F10 : Cl w8 b7 34 [.int .i64 (p1_0), .int .i64 (p1_1)] := F10
  have D13 : Dj [b1] [b7] := Dj.of (lt1 F4.lt) (low1 G9)
  replace F4 := F4.chg hc11 notNil
  replace hB := hB.inS hc11 inNil
  replace G9 := Nat.le_trans hZ G9
  replace hZ := Nat.le_trans hZ hc11.size
  refine wS_pure 1 [(4, .int .i64 (0))] (by kernel_rfl) ?_
  refine wS_end (by rfl) ?_
  refine eX_then ?_
  refine cW_seq ?_
  refine cW_drawnTail [] 11 (by kernel_rfl) (by kernel_rfl) (fun w26 hc27 => ?_)
  replace F4 := F4.chg hc27 notNil
  replace F10 := F10.chg hc27 notNil
  replace hB := hB.inS hc27 inNil
  replace hZ := Nat.le_trans hZ hc27.size
  have hS := Chg.refl [] w26
  have Z28 := F4
  have Z29 := F10
  refine wH_take [0] [0] [(5, .pointer (some ⟨b1, 0, none⟩))] (by kernel_rfl) (qT (qT qZ)) (by kernel_rfl) ?_
  refine wH_load1 (i := 1) (d := 6) (T := 2) (ad := ⟨b1, 0, none⟩) (v := .int .i64 (p0_0)) (by kernel_rfl) (qT (qT qZ)) (by kernel_rfl) (by kernel_rfl) vt2 (fun W hW => (Z28.chg hW notNil).cell 0) ?_
  refine wH_take [2] [2, 1, 0] [(7, .pointer (some ⟨b7, 0, none⟩))] (by kernel_rfl) (qT (qT qZ)) (by kernel_rfl) ?_
  refine wH_load1 (i := 3) (d := 8) (T := 2) (ad := ⟨b7, 0, none⟩) (v := .int .i64 (p1_0)) (by kernel_rfl) (qT (qT qZ)) (by kernel_rfl) (by kernel_rfl) vt2 (fun W hW => (Z29.chg hW notNil).cell 0) ?_
  refine wH_take [4, 6] [6, 4, 3, 2, 1, 0] [(11, .pointer (some ⟨b1, 1, none⟩)), (9, .int .i64 (wr (p0_0 - p1_0)))] (by kernel_rfl) (qT (qT qZ)) (by kernel_rfl) ?_
  refine wH_load1 (i := 7) (d := 12) (T := 2) (ad := ⟨b1, 1, none⟩) (v := .int .i64 (p0_1)) (by kernel_rfl) (qT (qT qZ)) (by kernel_rfl) (by kernel_rfl) vt2 (fun W hW => (Z28.chg hW notNil).cell 1) ?_
  refine wH_take [8] [8, 7, 6, 4, 3, 2, 1, 0] [(13, .pointer (some ⟨b7, 1, none⟩))] (by kernel_rfl) (qT (qT qZ)) (by kernel_rfl) ?_
  refine wH_load1 (i := 9) (d := 14) (T := 2) (ad := ⟨b7, 1, none⟩) (v := .int .i64 (p1_1)) (by kernel_rfl) (qT (qT qZ)) (by kernel_rfl) (by kernel_rfl) vt2 (fun W hW => (Z29.chg hW notNil).cell 1) ?_
  refine wH_take [10] [10, 9, 8, 7, 6, 4, 3, 2, 1, 0] [(15, .int .i64 (wr (p0_1 - p1_1)))] (by kernel_rfl) (qT (qT qZ)) (by kernel_rfl) ?_
  refine wH_all [5] (by rfl) (by kernel_rfl) (by simp) ⟨⟨by kernel_rfl, ?_⟩, trivial⟩
  obtain ⟨y30, hy31, hm⟩ := bindE hm
  refine wS_calls (d := 10) (f := 126) (vs := [.int .i64 (wr (p0_0 - p1_0))]) (by kernel_rfl) ent126 (c_spec_l01Abs hy31) ?_
  rintro _ w32 ⟨rfl, hc33⟩
  replace F4 := F4.chg hc33 notNil
  replace F10 := F10.chg hc33 notNil
  replace hB := hB.inS hc33 inNil
  have hSz := hS
  replace hS := hS.inS hc33 inNil
  replace hZ := Nat.le_trans hZ hc33.size
  refine ⟨.int .i64 (y30), rfl, ?_⟩
  refine wS_end (by kernel_rfl) ?_
  refine eX_KH hS ?_
  refine wH_done (by kernel_rfl) ?_
  refine eX_tail ?_
  obtain ⟨y34, hy35, hm⟩ := bindE hm
  refine wS_calls (d := 16) (f := 126) (vs := [.int .i64 (wr (p0_1 - p1_1))]) (by kernel_rfl) ent126 (c_spec_l01Abs hy35) ?_
  rintro _ w36 ⟨rfl, hc37⟩
  replace F4 := F4.chg hc37 notNil
  replace F10 := F10.chg hc37 notNil
  replace hB := hB.inS hc37 inNil
  replace hZ := Nat.le_trans hZ hc37.size
  refine ⟨.int .i64 (y34), rfl, ?_⟩
  refine wS_pure 2 [(4, .int .i64 (wr (y30 + y34))), (17, .int .i64 (wr (y30 + y34)))] (by kernel_rfl) ?_
  refine wS_end (by rfl) ?_
  refine eX_then ?_
  refine cW_ret ?_
  have hq : (some (wr (y30 + y34)) : Option ((Int))) = some _ := hm
  replace hq := someE hq
  subst hq
  refine eX_ret (vs := [.int .i64 (wr (y30 + y34))]) [.tmp 4] (by rfl) ⟨by (show lkE _ _ _ = _); kernel_rfl, trivial⟩ ?_
  exact ⟨rfl, hB⟩

set_option maxRecDepth 100000 in
/-- spec.l01Index -/
theorem c_spec_l01Index {w0 : World} {l0 : List (Int × Int)} {A0 : Option Addr} {cap0 : Nat} {fp0 : List Nat} {p1_0 : Int} {p1_1 : Int} {r : (Int)} (hm : m_spec_l01Index l0 p1_0 p1_1 = some r) (F0 : Sl 2 encII w0 fp0 A0 l0) :
    Calls Try.prog 95 #[.slice A0 (l0).length cap0, .agg #[.int .i64 (p1_0), .int .i64 (p1_1)]] w0 fun e w' => e = .returned (.int .i64 (r)) ∧ Chg [] w0 w' := by
  have L0 := F0.low
  have hB : Chg [] w0 w0 := Chg.refl _ _
  have hZ := Nat.le_refl w0.heap.size
  unfold m_spec_l01Index at hm
  refine enterE (N := 19) Try.func95 (by rfl) Try.ntmps95 (by simp) [(0, .slice A0 (l0).length cap0), (1, .agg #[.int .i64 (p1_0), .int .i64 (p1_1)])] (by rfl) (by kernel_rfl) (fun a => ?_)
  refine cW_seq ?_
  refine cW_region ?_
  refine wS_box (d := 3) (T := 34) (x := .agg #[.int .i64 (p1_0), .int .i64 (p1_1)]) (by kernel_rfl) ?_
  intro b2 w3 G4 F5 hc6
  replace F5 : Cl w3 b2 34 [.int .i64 (p1_0), .int .i64 (p1_1)] := F5
  replace F0 := F0.chg hc6 Dj.nil
  replace hB := hB.inS hc6 inNil
  replace G4 := Nat.le_trans hZ G4
  replace hZ := Nat.le_trans hZ hc6.size
  refine wS_pure 1 [(4, .int .i64 (0))] (by kernel_rfl) ?_
  refine wS_end (by rfl) ?_
  refine eX_then ?_
  refine cW_seq ?_
  refine cW_seq ?_
  refine cW_region ?_
  refine wS_pure 1 [(5, .int .i64 (0))] (by kernel_rfl) ?_
  refine wS_end (by rfl) ?_
  refine eX_then ?_
  obtain ⟨r50, hr51, hm⟩ := bindE hm
  have hm52 := hm
  refine cW_cut (fun a' w' => Sum.inl (()) = r50 ∧ Fr 19 [] a' ∧ Chg [] w0 w' ∧ w0.heap.size ≤ w'.heap.size) ?_ ?_
  · refine cW_block ?_
    refine cW_loop _ (fun (s53 : Int) a' w' => ∃ x46 : Int, x46 = s53 ∧ Fr 19 [(0, .slice A0 (l0).length cap0), (3, .pointer (some ⟨b2, 0, none⟩)), (5, .int .i64 (x46))] a' ∧ Sl 2 encII w' fp0 A0 l0 ∧ Cl w' b2 34 [.int .i64 (p1_0), .int .i64 (p1_1)] ∧ Chg [] w0 w' ∧ w0.heap.size ≤ w'.heap.size) hr51 (fun hst => ⟨0, rfl, Fr.of hst (by kernel_rfl), F0, F5, hB, hZ⟩) ?_
    rintro _ c54 a' w45 ⟨x46, rfl, hF47, F48, F49, hB, hZ⟩ hx55
    refine Fr.goOn hF47 (by kernel_rfl) ?_
    have hm := hx55
    unfold m_spec_l01Index_s1 at hm
    refine cW_seq ?_
    refine cW_seq ?_
    refine cW_region ?_
    refine wS_pure 4 [(9, .bool (decide (x46 < (((l0).length : Int))))), (8, .int .i64 (((l0).length : Int))), (7, .slice A0 (l0).length cap0), (6, .int .i64 (x46))] (by kernel_rfl) ?_
    refine wS_end (by rfl) ?_
    refine eX_then ?_
    refine cW_cond (t := decide (x46 < (((l0).length : Int)))) (by kernel_rfl) (fun hb56 => ?_) (fun hb56 => ?_)
    · have hm := condT hb56 hm
      refine cW_skip ?_
      refine eX_then ?_
      refine cW_seq ?_
      refine cW_block ?_
      refine cW_seq ?_
      refine cW_drawnTail [] 5 (by kernel_rfl) (by kernel_rfl) (fun w63 hc64 => ?_)
      replace F48 := F48.chg hc64 Dj.nil
      replace F49 := F49.chg hc64 notNil
      replace hB := hB.inS hc64 inNil
      replace hZ := Nat.le_trans hZ hc64.size
      have hS := Chg.refl [] w63
      have Z65 := F48
      have Z66 := F49
      refine wH_take [0, 1] [1, 0] [(13, .int .i64 (x46)), (12, .slice A0 (l0).length cap0)] (by kernel_rfl) (qT (qT (qB (qT (qL (qB (qT (qT qZ)))))))) (by kernel_rfl) ?_
      obtain ⟨x67, hx68, hm⟩ := bindE hm
      refine wH_idx (i := 2) (d := 14) (T := 25) (A := A0) (n := (l0).length) (cap := cap0) (kd := .i64) (m := x46) (by kernel_rfl) (qT (qT (qB (qT (qL (qB (qT (qT qZ)))))))) (by kernel_rfl) (by kernel_rfl) sl25 (F48.is hx68) ?_
      refine wH_loadA (i := 3) (d := 15) (T := 34) (ad := (elA A0 2 (x46) 0)) (vs := [.int .i64 (x67.1), .int .i64 (x67.2)]) (by kernel_rfl) (qT (qT (qB (qT (qL (qB (qT (qT qZ)))))))) (by kernel_rfl) (by kernel_rfl) vt34 (fun W hW i u hu => Sl.cells_at (Z65.chg hW Dj.nil) hx68 0 hu (by rfl)) ?_
      refine wH_loadA (i := 4) (d := 16) (T := 34) (ad := ⟨b2, 0, none⟩) (vs := [.int .i64 (p1_0), .int .i64 (p1_1)]) (by kernel_rfl) (qT (qT (qB (qT (qL (qB (qT (qT qZ)))))))) (by kernel_rfl) (by kernel_rfl) vt34 (fun W hW i u hu => box_cells (Z66.chg hW notNil) 0 hu (by rfl)) ?_
      refine wH_done (by kernel_rfl) ?_
      refine eX_tail ?_
      refine wS_eqS (d := 17) (T := 34) (x := x67.1) (y := x67.2) (x' := p1_0) (y' := p1_1) (by kernel_rfl) eq34 ?_
      refine wS_end (by rfl) ?_
      refine eX_then ?_
      refine cW_cond (t := x67.1 == p1_0 && x67.2 == p1_1) (by kernel_rfl) (fun hb69 => ?_) (fun hb69 => ?_)
      · have hm := condT hb69 hm
        refine cW_seq ?_
        refine cW_region ?_
        refine wS_pure 2 [(4, .int .i64 (x46)), (18, .int .i64 (x46))] (by kernel_rfl) ?_
        refine wS_end (by rfl) ?_
        refine eX_then ?_
        refine cW_ret ?_
        refine eX_block_ret ?_
        refine eX_then_ret ?_
        have hq : (some (Ctl.out (Sum.inr x46)) : Option (Ctl (Int) (Sum (Unit) ((Int))))) = some _ := hm
        replace hq := someE hq
        subst hq
        refine eX_outR hx55 (fun hr => ?_)
        subst hr
        refine eX_block_ret ?_
        refine eX_then_ret ?_
        refine eX_then_ret ?_
        have hq : (some x46 : Option ((Int))) = some _ := hm52
        replace hq := someE hq
        subst hq
        refine eX_ret (vs := [.int .i64 (x46)]) [.tmp 4] (by rfl) ⟨by (show lkE _ _ _ = _); kernel_rfl, trivial⟩ ?_
        exact ⟨rfl, hB⟩
      · have hm := condF hb69 hm
        refine cW_skip ?_
        refine eX_block ?_
        refine eX_then ?_
        refine cW_region ?_
        refine wS_pure 3 [(5, .int .i64 (wr (x46 + 1))), (11, .int .i64 (wr (x46 + 1))), (10, .int .i64 (x46))] (by kernel_rfl) ?_
        refine wS_end (by rfl) ?_
        have hq : (some (Ctl.next (wr (x46 + 1))) : Option (Ctl (Int) (Sum (Unit) ((Int))))) = some _ := hm
        replace hq := someE hq
        subst hq
        exact eX_next hx55 (fun hst => ⟨wr (x46 + 1), rfl, Fr.of hst (by kernel_rfl), F48, F49, hB, hZ⟩)
    · have hm := condF hb56 hm
      refine cW_exit ?_
      refine eX_then_exit ?_
      have hq : (some (Ctl.out (Sum.inl (()))) : Option (Ctl (Int) (Sum (Unit) ((Int))))) = some _ := hm
      replace hq := someE hq
      subst hq
      refine eX_outX hx55 (fun hr70 => ?_)
      replace hr70 := hr70.symm
      subst hr70
      refine eX_block_hit ?_
      exact eX_J (fun hst => ⟨rfl, Fr.of hst (by kernel_rfl), hB, hZ⟩)
  · rintro a' w43 ⟨hJ, hF44, hB, hZ⟩
    subst hJ
    refine Fr.goX hF44 (by kernel_rfl) ?_
    refine eX_then ?_
    refine cW_seq ?_
    refine cW_region ?_
    refine wS_pure 1 [(4, .int .i64 ((-1)))] (by kernel_rfl) ?_
    refine wS_end (by rfl) ?_
    refine eX_then ?_
    refine cW_ret ?_
    have hq : (some ((-1)) : Option ((Int))) = some _ := hm
    replace hq := someE hq
    subst hq
    refine eX_ret (vs := [.int .i64 ((-1))]) [.tmp 4] (by rfl) ⟨by (show lkE _ _ _ = _); kernel_rfl, trivial⟩ ?_
    exact ⟨rfl, hB⟩

set_option maxRecDepth 100000 in
/-- laws.toPoint -/
theorem c_laws_toPoint {w0 : World} {p0_0 : Int} {p0_1 : Int} {r : (Int × Int)} (hm : m_laws_toPoint p0_0 p0_1 = some r)  :
    Calls Try.prog 28 #[.agg #[.int .i64 (p0_0), .int .i64 (p0_1)]] w0 fun e w' => e = .returned (.agg #[.int .i64 (r.1), .int .i64 (r.2)]) ∧ Chg [] w0 w' := by
  have hB : Chg [] w0 w0 := Chg.refl _ _
  have hZ := Nat.le_refl w0.heap.size
  unfold m_laws_toPoint at hm
  refine enterE (N := 11) Try.func28 (by rfl) Try.ntmps28 (by simp) [(0, .agg #[.int .i64 (p0_0), .int .i64 (p0_1)])] (by rfl) (by kernel_rfl) (fun a => ?_)
  refine cW_seq ?_
  refine cW_region ?_
  refine wS_box (d := 1) (T := 32) (x := .agg #[.int .i64 (p0_0), .int .i64 (p0_1)]) (by kernel_rfl) ?_
  intro b1 w2 G3 F4 hc5
  replace F4 : Cl w2 b1 32 [.int .i64 (p0_0), .int .i64 (p0_1)] := F4
  replace hB := hB.inS hc5 inNil
  replace G3 := Nat.le_trans hZ G3
  replace hZ := Nat.le_trans hZ hc5.size
  refine wS_alloc (d := 2) (T := 34) (z := .agg #[.int .i64 (0), .int .i64 (0)]) (by kernel_rfl) (by kernel_rfl) ?_
  intro b7 w8 G9 F10 hc11
  replace F10 : Cl w8 b7 34 [.int .i64 (0), .int .i64 (0)] := F10
  have D13 : Dj [b1] [b7] := Dj.of (lt1 F4.lt) (low1 G9)
  replace F4 := F4.chg hc11 notNil
  replace hB := hB.inS hc11 inNil
  replace G9 := Nat.le_trans hZ G9
  replace hZ := Nat.le_trans hZ hc11.size
  refine wS_end (by rfl) ?_
  refine eX_then ?_
  refine cW_seq ?_
  refine cW_region ?_
  refine wS_alloc (d := 3) (T := 34) (z := .agg #[.int .i64 (0), .int .i64 (0)]) (by kernel_rfl) (by kernel_rfl) ?_
  intro b14 w15 G16 F17 hc18
  replace F17 : Cl w15 b14 34 [.int .i64 (0), .int .i64 (0)] := F17
  have D20 : Dj [b1] [b14] := Dj.of (lt1 F4.lt) (low1 G16)
  have D21 : Dj [b7] [b14] := Dj.of (lt1 F10.lt) (low1 G16)
  replace F4 := F4.chg hc18 notNil
  replace F10 := F10.chg hc18 notNil
  replace hB := hB.inS hc18 inNil
  replace G16 := Nat.le_trans hZ G16
  replace hZ := Nat.le_trans hZ hc18.size
  refine wS_end (by rfl) ?_
  refine eX_then ?_
  refine cW_seq ?_
  refine cW_region ?_
  refine wS_pure 1 [(4, .pointer (some ⟨b1, 0, none⟩))] (by kernel_rfl) ?_
  refine wS_load1 (d := 5) (T := 2) (ad := ⟨b1, 0, none⟩) (v := .int .i64 (p0_0)) (by kernel_rfl) vt2 ((F4).cell 0) ?_
  refine wS_pure 1 [(6, .pointer (some ⟨b14, 0, none⟩))] (by kernel_rfl) ?_
  refine wS_store (T := 2) (g := b14) (o := 0) (ad := ⟨b14, 0, none⟩) (v := .int .i64 (p0_0)) (vs := [.int .i64 (p0_0)]) (by kernel_rfl) (by rfl) sz2 (by rfl) (by rfl) F17 (by simp only [List.length_cons, List.length_nil]; omega) ?_
  intro w22 F23 hc24
  replace F4 := F4.chg hc24 (dj1 D20)
  replace F10 := F10.chg hc24 (dj1 D21)
  replace hB := hB.inS hc24 (inLow (low1 G16))
  replace hZ := Nat.le_trans hZ hc24.size
  replace F23 : Cl w22 b14 34 [.int .i64 (p0_0), .int .i64 (0)] := F23
  clear F17
  refine wS_end (by rfl) ?_
  refine eX_then ?_
  refine cW_seq ?_
  refine cW_region ?_
  refine wS_pure 1 [(7, .pointer (some ⟨b1, 1, none⟩))] (by kernel_rfl) ?_
  refine wS_load1 (d := 8) (T := 2) (ad := ⟨b1, 1, none⟩) (v := .int .i64 (p0_1)) (by kernel_rfl) vt2 ((F4).cell 1) ?_
  refine wS_pure 1 [(9, .pointer (some ⟨b14, 1, none⟩))] (by kernel_rfl) ?_
  refine wS_store (T := 2) (g := b14) (o := 1) (ad := ⟨b14, 1, none⟩) (v := .int .i64 (p0_1)) (vs := [.int .i64 (p0_1)]) (by kernel_rfl) (by rfl) sz2 (by rfl) (by rfl) F23 (by simp only [List.length_cons, List.length_nil]; omega) ?_
  intro w25 F26 hc27
  replace F4 := F4.chg hc27 (dj1 D20)
  replace F10 := F10.chg hc27 (dj1 D21)
  replace hB := hB.inS hc27 (inLow (low1 G16))
  replace hZ := Nat.le_trans hZ hc27.size
  replace F26 : Cl w25 b14 34 [.int .i64 (p0_0), .int .i64 (p0_1)] := F26
  clear F23
  refine wS_end (by rfl) ?_
  refine eX_then ?_
  refine cW_seq ?_
  refine cW_region ?_
  refine wS_loadA (d := 10) (T := 34) (ad := ⟨b14, 0, none⟩) (vs := [.int .i64 (p0_0), .int .i64 (p0_1)]) (by kernel_rfl) vt34 (fun i u hu => box_cells F26 0 hu (by rfl)) ?_
  refine wS_store (T := 34) (g := b7) (o := 0) (ad := ⟨b7, 0, none⟩) (v := .agg #[.int .i64 (p0_0), .int .i64 (p0_1)]) (vs := [.int .i64 (p0_0), .int .i64 (p0_1)]) (by kernel_rfl) (by rfl) sz34 (by rfl) (by rfl) F10 (by simp only [List.length_cons, List.length_nil]; omega) ?_
  intro w28 F29 hc30
  replace F4 := F4.chg hc30 (dj1 D13)
  replace F26 := F26.chg hc30 (dj1 (D21).symm)
  replace hB := hB.inS hc30 (inLow (low1 G9))
  replace hZ := Nat.le_trans hZ hc30.size
  replace F29 : Cl w28 b7 34 [.int .i64 (p0_0), .int .i64 (p0_1)] := F29
  clear F10
  refine wS_end (by rfl) ?_
  refine eX_then ?_
  refine cW_ret ?_
  have hq : (some ((p0_0, p0_1)) : Option ((Int × Int))) = some _ := hm
  replace hq := someE hq
  subst hq
  refine eX_ret (vs := [.agg #[.int .i64 (p0_0), .int .i64 (p0_1)]]) [.cell 2 34] (by rfl) ⟨⟨⟨b7, 0, none⟩, by kernel_rfl, run_loadVarA (vs := [.int .i64 (p0_0), .int .i64 (p0_1)]) vt34 (fun i u hu => by exact box_cells F29 0 hu (by rfl))⟩, trivial⟩ ?_
  exact ⟨rfl, hB⟩

set_option maxRecDepth 100000 in
/-- laws.toPointS -/
theorem c_laws_toPointS {w0 : World} {l0 : List (Int × Int)} {A0 : Option Addr} {cap0 : Nat} {fp0 : List Nat} {r : (List (Int × Int))} (hm : m_laws_toPointS l0 = some r) (F0 : Sl 2 encII w0 fp0 A0 l0) :
    Calls Try.prog 22 #[.slice A0 (l0).length cap0] w0 fun e w' => ∃ A100 cap100 fp100, e = .returned (.slice A100 (r).length cap100) ∧ Ow 2 encII 34 w' fp100 A100 cap100 r ∧ (∀ x ∈ fp100, w0.heap.size ≤ x) ∧ Chg [] w0 w' := by
  have L0 := F0.low
  have hB : Chg [] w0 w0 := Chg.refl _ _
  have hZ := Nat.le_refl w0.heap.size
  unfold m_laws_toPointS at hm
  refine enterE (N := 23) Try.func22 (by rfl) Try.ntmps22 (by simp) [(0, .slice A0 (l0).length cap0)] (by rfl) (by kernel_rfl) (fun a => ?_)
  refine cW_seq ?_
  refine cW_region ?_
  refine wS_pure 1 [(2, .slice none 0 0)] (by kernel_rfl) ?_
  refine wS_end (by rfl) ?_
  refine eX_then ?_
  refine cW_seq ?_
  refine cW_region ?_
  refine wS_pure 2 [(6, .int .i64 (((l0).length : Int))), (5, .slice A0 (l0).length cap0)] (by kernel_rfl) ?_
  obtain ⟨_, hk2, hm⟩ := bindE hm
  replace hk2 := mkE hk2
  refine wS_make (enc := encII) (x0 := ((0, 0) : Int × Int)) (d := 7) (t := 25) (T := 34) (k1 := .i64) (k2 := .i64) (m := ((l0).length : Int)) (by kernel_rfl) el25 encII_ok (by rfl) hk2.1 hk2.2 ?_
  intro b3 w4 G5 F6 hc7
  replace F0 := F0.chg hc7 Dj.nil
  replace hB := hB.inS hc7 inNil
  replace G5 := Nat.le_trans hZ G5
  replace G5 := low1 G5
  replace hZ := Nat.le_trans hZ hc7.size
  refine wS_pure 1 [(3, .slice (some ⟨b3, 0, none⟩) (List.replicate (Int.toNat (((l0).length : Int))) (((0, 0) : Int × Int))).length (Int.toNat (((l0).length : Int))))] (by kernel_rfl) ?_
  refine wS_end (by rfl) ?_
  refine eX_then ?_
  refine cW_seq ?_
  refine cW_seq ?_
  refine cW_region ?_
  refine wS_pure 1 [(4, .int .i64 (0))] (by kernel_rfl) ?_
  refine wS_end (by rfl) ?_
  refine eX_then ?_
  obtain ⟨r51, hr52, hm⟩ := bindE hm
  have hm53 := hm
  refine cW_cut (fun a' w' => ∃ l42 : List (Int × Int), l42 = r51 ∧ Fr 23 [(3, .slice (some ⟨b3, 0, none⟩) (l42).length (Int.toNat (((l0).length : Int))))] a' ∧ Ow 2 encII 34 w' [b3] (some ⟨b3, 0, none⟩) (Int.toNat (((l0).length : Int))) l42 ∧ Chg [] w0 w' ∧ w0.heap.size ≤ w'.heap.size) ?_ ?_
  · refine cW_block ?_
    refine cW_loop _ (fun (s54 : Int × (List (Int × Int))) a' w' => ∃ x46 : Int, ∃ l47 : List (Int × Int), (x46, l47) = s54 ∧ Fr 23 [(0, .slice A0 (l0).length cap0), (3, .slice (some ⟨b3, 0, none⟩) (l47).length (Int.toNat (((l0).length : Int)))), (4, .int .i64 (x46))] a' ∧ Sl 2 encII w' fp0 A0 l0 ∧ Ow 2 encII 34 w' [b3] (some ⟨b3, 0, none⟩) (Int.toNat (((l0).length : Int))) l47 ∧ Chg [] w0 w' ∧ w0.heap.size ≤ w'.heap.size) hr52 (fun hst => ⟨0, List.replicate (Int.toNat (((l0).length : Int))) (((0, 0) : Int × Int)), rfl, Fr.of hst (by kernel_rfl), F0, F6, hB, hZ⟩) ?_
    rintro _ c55 a' w45 ⟨x46, l47, rfl, hF48, F49, F50, hB, hZ⟩ hx56
    refine Fr.goOn hF48 (by kernel_rfl) ?_
    have hm := hx56
    unfold m_laws_toPointS_s1 at hm
    refine cW_seq ?_
    refine cW_seq ?_
    refine cW_region ?_
    refine wS_pure 4 [(11, .bool (decide (x46 < (((l0).length : Int))))), (10, .int .i64 (((l0).length : Int))), (9, .slice A0 (l0).length cap0), (8, .int .i64 (x46))] (by kernel_rfl) ?_
    refine wS_end (by rfl) ?_
    refine eX_then ?_
    refine cW_cond (t := decide (x46 < (((l0).length : Int)))) (by kernel_rfl) (fun hb57 => ?_) (fun hb57 => ?_)
    · have hm := condT hb57 hm
      refine cW_skip ?_
      refine eX_then ?_
      refine cW_seq ?_
      refine cW_block ?_
      refine cW_region ?_
      refine wS_pure 4 [(17, .int .i64 (x46)), (16, .slice A0 (l0).length cap0), (15, .int .i64 (x46)), (14, .slice (some ⟨b3, 0, none⟩) (l47).length (Int.toNat (((l0).length : Int))))] (by kernel_rfl) ?_
      obtain ⟨x58, hx59, hm⟩ := bindE hm
      refine wS_idx (d := 18) (T := 22) (A := A0) (n := (l0).length) (cap := cap0) (kd := .i64) (m := x46) (by kernel_rfl) sl22 (F49.is hx59) ?_
      refine wS_loadA (d := 19) (T := 32) (ad := (elA A0 2 (x46) 0)) (vs := [.int .i64 (x58.1), .int .i64 (x58.2)]) (by kernel_rfl) vt32 (fun i u hu => Sl.cells_at F49 hx59 0 hu (by rfl)) ?_
      obtain ⟨y60, hy61, hm⟩ := bindE hm
      refine wS_calls (d := 20) (f := 28) (vs := [.agg #[.int .i64 (x58.1), .int .i64 (x58.2)]]) (by kernel_rfl) ent28 (c_laws_toPoint hy61) ?_
      rintro _ w62 ⟨rfl, hc63⟩
      replace F49 := F49.chg hc63 Dj.nil
      replace F50 := F50.chg hc63 Dj.nil
      replace hB := hB.inS hc63 inNil
      replace hZ := Nat.le_trans hZ hc63.size
      refine ⟨.agg #[.int .i64 (y60.1), .int .i64 (y60.2)], rfl, ?_⟩
      obtain ⟨x64, hx65, hm⟩ := bindE hm
      refine wS_idx (d := 21) (T := 25) (A := (some ⟨b3, 0, none⟩)) (n := (l47).length) (cap := (Int.toNat (((l0).length : Int)))) (kd := .i64) (m := x46) (by kernel_rfl) sl25 ((F50.sl encII_ok).is hx65) ?_
      refine wS_storeEl (x := x64) ((y60.1, y60.2)) (T := 34) (U := 34) (cap := (Int.toNat (((l0).length : Int)))) (j := 0) (A := (some ⟨b3, 0, none⟩)) (v := .agg #[.int .i64 (y60.1), .int .i64 (y60.2)]) (vs := [.int .i64 (y60.1), .int .i64 (y60.2)]) (m := x46) (by kernel_rfl) (by rfl) sz34 (by rfl) encII_ok F50 hx65 (by simp only [List.length_cons, List.length_nil]; omega) (by rfl) ?_
      intro w66 F67 hc68
      replace F49 := F49.chg hc68 (Dj.of L0 G5)
      replace hB := hB.inS hc68 (inLow G5)
      replace hZ := Nat.le_trans hZ hc68.size
      clear F50
      rewrite [show (l47).length = (l47.set (Int.toNat x46) ((y60.1, y60.2))).length from (List.length_set ..).symm]
      refine wS_end (by rfl) ?_
      refine eX_block ?_
      refine eX_then ?_
      refine cW_region ?_
      refine wS_pure 3 [(4, .int .i64 (wr (x46 + 1))), (13, .int .i64 (wr (x46 + 1))), (12, .int .i64 (x46))] (by kernel_rfl) ?_
      refine wS_end (by rfl) ?_
      have hq : (some (Ctl.next ((wr (x46 + 1), l47.set (Int.toNat x46) ((y60.1, y60.2))))) : Option (Ctl (Int × (List (Int × Int))) ((List (Int × Int))))) = some _ := hm
      replace hq := someE hq
      subst hq
      exact eX_next hx56 (fun hst => ⟨wr (x46 + 1), l47.set (Int.toNat x46) ((y60.1, y60.2)), rfl, Fr.of hst (by kernel_rfl), F49, F67, hB, hZ⟩)
    · have hm := condF hb57 hm
      refine cW_exit ?_
      refine eX_then_exit ?_
      have hq : (some (Ctl.out l47) : Option (Ctl (Int × (List (Int × Int))) ((List (Int × Int))))) = some _ := hm
      replace hq := someE hq
      subst hq
      refine eX_outX hx56 (fun hr69 => ?_)
      replace hr69 := hr69.symm
      subst hr69
      refine eX_block_hit ?_
      exact eX_J (fun hst => ⟨l47, rfl, Fr.of hst (by kernel_rfl), F50, hB, hZ⟩)
  · rintro a' w41 ⟨l42, hJ, hF43, F44, hB, hZ⟩
    subst hJ
    refine Fr.goX hF43 (by kernel_rfl) ?_
    refine eX_then ?_
    refine cW_seq ?_
    refine cW_region ?_
    refine wS_pure 2 [(2, .slice (some ⟨b3, 0, none⟩) (l42).length (Int.toNat (((l0).length : Int)))), (22, .slice (some ⟨b3, 0, none⟩) (l42).length (Int.toNat (((l0).length : Int))))] (by kernel_rfl) ?_
    refine wS_end (by rfl) ?_
    refine eX_then ?_
    refine cW_ret ?_
    have hq : (some l42 : Option ((List (Int × Int)))) = some _ := hm
    replace hq := someE hq
    subst hq
    refine eX_ret (vs := [.slice (some ⟨b3, 0, none⟩) (l42).length (Int.toNat (((l0).length : Int)))]) [.tmp 2] (by rfl) ⟨by (show lkE _ _ _ = _); kernel_rfl, trivial⟩ ?_
    exact ⟨(some ⟨b3, 0, none⟩), (Int.toNat (((l0).length : Int))), [b3], rfl, F44, G5, hB⟩

set_option maxRecDepth 100000 in
/-- impl.in -/
theorem c_impl_in {w0 : World} {p0 : Int} {p1 : Int} {p2 : Int} {r : (Bool)} (hm : m_impl_in p0 p1 p2 = some r)  :
    Calls Try.prog 123 #[.int .i64 (p0), .int .i64 (p1), .int .i64 (p2)] w0 fun e w' => e = .returned (.bool (r)) ∧ Chg [] w0 w' := by
  have hB : Chg [] w0 w0 := Chg.refl _ _
  have hZ := Nat.le_refl w0.heap.size
  unfold m_impl_in at hm
  refine enterE (N := 15) Try.func123 (by rfl) Try.ntmps123 (by simp) [(0, .int .i64 (p0)), (1, .int .i64 (p1)), (2, .int .i64 (p2))] (by rfl) (by kernel_rfl) (fun a => ?_)
  refine cW_seq ?_
  refine cW_region ?_
  refine wS_pure 1 [(6, .bool (false))] (by kernel_rfl) ?_
  refine wS_end (by rfl) ?_
  refine eX_then ?_
  refine cW_seq ?_
  refine cW_region ?_
  refine wS_pure 4 [(10, .bool (decide (p0 ≥ p1))), (9, .bool (decide (p0 ≥ p1))), (8, .int .i64 (p1)), (7, .int .i64 (p0))] (by kernel_rfl) ?_
  refine wS_bool (decide (p0 ≥ p1)) (fun hb1 => ?_) (fun hb1 => ?_)
  · have hm := condT hb1 hm
    rewrite [hb1]
    refine wS_pure 5 [(6, .bool (decide (p0 ≤ p2))), (14, .bool (decide (p0 ≤ p2))), (13, .bool (decide (p0 ≤ p2))), (12, .int .i64 (p2)), (11, .int .i64 (p0))] (by kernel_rfl) ?_
    refine wS_end (by rfl) ?_
    refine eX_then ?_
    refine cW_ret ?_
    have hq : (some (decide (p0 ≤ p2)) : Option ((Bool))) = some _ := hm
    replace hq := someE hq
    subst hq
    refine eX_ret (vs := [.bool (decide (p0 ≤ p2))]) [.tmp 6] (by rfl) ⟨by (show lkE _ _ _ = _); kernel_rfl, trivial⟩ ?_
    exact ⟨rfl, hB⟩
  · have hm := condF hb1 hm
    rewrite [hb1]
    refine wS_pure 5 [(6, .bool (false)), (14, .bool (false)), (13, undef), (12, undef), (11, undef)] (by kernel_rfl) ?_
    refine wS_end (by rfl) ?_
    refine eX_then ?_
    refine cW_ret ?_
    have hq : (some false : Option ((Bool))) = some _ := hm
    replace hq := someE hq
    subst hq
    refine eX_ret (vs := [.bool (false)]) [.tmp 6] (by rfl) ⟨by (show lkE _ _ _ = _); kernel_rfl, trivial⟩ ?_
    exact ⟨rfl, hB⟩

set_option maxRecDepth 100000 in
/-- impl.IsPoint -/
theorem c_impl_IsPoint {w0 : World} {p0_0 : Int} {p0_1 : Int} {r : (Bool)} (hm : m_impl_IsPoint p0_0 p0_1 = some r)  :
    Calls Try.prog 79 #[.agg #[.int .i64 (p0_0), .int .i64 (p0_1)]] w0 fun e w' => e = .returned (.bool (r)) ∧ Chg [] w0 w' := by
  have hB : Chg [] w0 w0 := Chg.refl _ _
  have hZ := Nat.le_refl w0.heap.size
  unfold m_impl_IsPoint at hm
  refine enterE (N := 11) Try.func79 (by rfl) Try.ntmps79 (by simp) [(0, .agg #[.int .i64 (p0_0), .int .i64 (p0_1)])] (by rfl) (by kernel_rfl) (fun a => ?_)
  refine cW_seq ?_
  refine cW_region ?_
  refine wS_box (d := 1) (T := 34) (x := .agg #[.int .i64 (p0_0), .int .i64 (p0_1)]) (by kernel_rfl) ?_
  intro b1 w2 G3 F4 hc5
  replace F4 : Cl w2 b1 34 [.int .i64 (p0_0), .int .i64 (p0_1)] := F4
  replace hB := hB.inS hc5 inNil
  replace G3 := Nat.le_trans hZ G3
  replace hZ := Nat.le_trans hZ hc5.size
  refine wS_pure 1 [(2, .bool (false))] (by kernel_rfl) ?_
  refine wS_end (by rfl) ?_
  refine eX_then ?_
  refine cW_seq ?_
  refine cW_region ?_
  refine wS_pure 1 [(3, .pointer (some ⟨b1, 0, none⟩))] (by kernel_rfl) ?_
  refine wS_load1 (d := 4) (T := 2) (ad := ⟨b1, 0, none⟩) (v := .int .i64 (p0_0)) (by kernel_rfl) vt2 ((F4).cell 0) ?_
  obtain ⟨y7, hy8, hm⟩ := bindE hm
  refine wS_calls (d := 5) (f := 123) (vs := [.int .i64 (p0_0), .int .i64 (0), .int .i64 (99)]) (by kernel_rfl) ent123 (c_impl_in hy8) ?_
  rintro _ w9 ⟨rfl, hc10⟩
  replace F4 := F4.chg hc10 notNil
  replace hB := hB.inS hc10 inNil
  replace hZ := Nat.le_trans hZ hc10.size
  refine ⟨.bool (y7), rfl, ?_⟩
  refine wS_pure 1 [(6, .bool (y7))] (by kernel_rfl) ?_
  refine wS_bool y7 (fun hb11 => ?_) (fun hb11 => ?_)
  · have hm := condT hb11 hm
    rewrite [hb11]
    refine wS_pure 1 [(7, .pointer (some ⟨b1, 1, none⟩))] (by kernel_rfl) ?_
    refine wS_load1 (d := 8) (T := 2) (ad := ⟨b1, 1, none⟩) (v := .int .i64 (p0_1)) (by kernel_rfl) vt2 ((F4).cell 1) ?_
    obtain ⟨y12, hy13, hm⟩ := bindE hm
    refine wS_calls (d := 9) (f := 123) (vs := [.int .i64 (p0_1), .int .i64 (0), .int .i64 (99)]) (by kernel_rfl) ent123 (c_impl_in hy13) ?_
    rintro _ w14 ⟨rfl, hc15⟩
    replace F4 := F4.chg hc15 notNil
    replace hB := hB.inS hc15 inNil
    replace hZ := Nat.le_trans hZ hc15.size
    refine ⟨.bool (y12), rfl, ?_⟩
    refine wS_pure 2 [(2, .bool (y12)), (10, .bool (y12))] (by kernel_rfl) ?_
    refine wS_end (by rfl) ?_
    refine eX_then ?_
    refine cW_ret ?_
    have hq : (some y12 : Option ((Bool))) = some _ := hm
    replace hq := someE hq
    subst hq
    refine eX_ret (vs := [.bool (y12)]) [.tmp 2] (by rfl) ⟨by (show lkE _ _ _ = _); kernel_rfl, trivial⟩ ?_
    exact ⟨rfl, hB⟩
  · have hm := condF hb11 hm
    rewrite [hb11]
    refine wS_pure 5 [(2, .bool (false)), (10, .bool (false)), (9, undef), (8, undef), (7, undef)] (by kernel_rfl) ?_
    refine wS_end (by rfl) ?_
    refine eX_then ?_
    refine cW_ret ?_
    have hq : (some false : Option ((Bool))) = some _ := hm
    replace hq := someE hq
    subst hq
    refine eX_ret (vs := [.bool (false)]) [.tmp 2] (by rfl) ⟨by (show lkE _ _ _ = _); kernel_rfl, trivial⟩ ?_
    exact ⟨rfl, hB⟩

set_option maxRecDepth 100000 in
/-- impl.noPoint -/
theorem c_impl_noPoint {w0 : World} {p0_0 : Int} {p0_1 : Int} {r : (Bool)} (hm : m_impl_noPoint p0_0 p0_1 = some r)  :
    Calls Try.prog 72 #[.agg #[.int .i64 (p0_0), .int .i64 (p0_1)]] w0 fun e w' => e = .returned (.bool (r)) ∧ Chg [] w0 w' := by
  have hB : Chg [] w0 w0 := Chg.refl _ _
  have hZ := Nat.le_refl w0.heap.size
  unfold m_impl_noPoint at hm
  refine enterE (N := 6) Try.func72 (by rfl) Try.ntmps72 (by simp) [(0, .agg #[.int .i64 (p0_0), .int .i64 (p0_1)])] (by rfl) (by kernel_rfl) (fun a => ?_)
  refine cW_seq ?_
  refine cW_region ?_
  refine wS_box (d := 1) (T := 34) (x := .agg #[.int .i64 (p0_0), .int .i64 (p0_1)]) (by kernel_rfl) ?_
  intro b1 w2 G3 F4 hc5
  replace F4 : Cl w2 b1 34 [.int .i64 (p0_0), .int .i64 (p0_1)] := F4
  replace hB := hB.inS hc5 inNil
  replace G3 := Nat.le_trans hZ G3
  replace hZ := Nat.le_trans hZ hc5.size
  refine wS_pure 1 [(2, .bool (false))] (by kernel_rfl) ?_
  refine wS_end (by rfl) ?_
  refine eX_then ?_
  refine cW_seq ?_
  refine cW_region ?_
  refine wS_loadA (d := 3) (T := 34) (ad := ⟨b1, 0, none⟩) (vs := [.int .i64 (p0_0), .int .i64 (p0_1)]) (by kernel_rfl) vt34 (fun i u hu => box_cells F4 0 hu (by rfl)) ?_
  obtain ⟨y7, hy8, hm⟩ := bindE hm
  refine wS_calls (d := 4) (f := 79) (vs := [.agg #[.int .i64 (p0_0), .int .i64 (p0_1)]]) (by kernel_rfl) ent79 (c_impl_IsPoint hy8) ?_
  rintro _ w9 ⟨rfl, hc10⟩
  replace F4 := F4.chg hc10 notNil
  replace hB := hB.inS hc10 inNil
  replace hZ := Nat.le_trans hZ hc10.size
  refine ⟨.bool (y7), rfl, ?_⟩
  refine wS_pure 2 [(2, .bool (!y7)), (5, .bool (!y7))] (by kernel_rfl) ?_
  refine wS_end (by rfl) ?_
  refine eX_then ?_
  refine cW_ret ?_
  have hq : (some (!y7) : Option ((Bool))) = some _ := hm
  replace hq := someE hq
  subst hq
  refine eX_ret (vs := [.bool (!y7)]) [.tmp 2] (by rfl) ⟨by (show lkE _ _ _ = _); kernel_rfl, trivial⟩ ?_
  exact ⟨rfl, hB⟩

set_option maxRecDepth 100000 in
/-- impl.size -/
theorem c_impl_size {w0 : World} {p0 : Int} {r : (Int)} (hm : m_impl_size p0 = some r)  :
    Calls Try.prog 118 #[.int .i64 (p0)] w0 fun e w' => e = .returned (.int .i64 (r)) ∧ Chg [] w0 w' := by
  have hB : Chg [] w0 w0 := Chg.refl _ _
  have hZ := Nat.le_refl w0.heap.size
  unfold m_impl_size at hm
  refine enterE (N := 7) Try.func118 (by rfl) Try.ntmps118 (by simp) [(0, .int .i64 (p0))] (by rfl) (by kernel_rfl) (fun a => ?_)
  refine cW_seq ?_
  refine cW_region ?_
  refine wS_pure 1 [(2, .int .i64 (0))] (by kernel_rfl) ?_
  refine wS_end (by rfl) ?_
  refine eX_then ?_
  refine cW_seq ?_
  refine cW_region ?_
  refine wS_pure 5 [(2, .int .i64 (if (wr (0 - p0)) > p0 then (wr (0 - p0)) else p0)), (6, .int .i64 (if (wr (0 - p0)) > p0 then (wr (0 - p0)) else p0)), (5, .int .i64 (wr (0 - p0))), (4, .int .i64 (p0)), (3, .int .i64 (p0))] (by kernel_rfl) ?_
  refine wS_end (by rfl) ?_
  refine eX_then ?_
  refine cW_ret ?_
  have hq : (some (if (wr (0 - p0)) > p0 then (wr (0 - p0)) else p0) : Option ((Int))) = some _ := hm
  replace hq := someE hq
  subst hq
  refine eX_ret (vs := [.int .i64 (if (wr (0 - p0)) > p0 then (wr (0 - p0)) else p0)]) [.tmp 2] (by rfl) ⟨by (show lkE _ _ _ = _); kernel_rfl, trivial⟩ ?_
  exact ⟨rfl, hB⟩

set_option maxRecDepth 100000 in
/-- impl.far -/
theorem c_impl_far {w0 : World} {p0_0 : Int} {p0_1 : Int} {p1_0 : Int} {p1_1 : Int} {r : (Int)} (hm : m_impl_far p0_0 p0_1 p1_0 p1_1 = some r)  :
    Calls Try.prog 73 #[.agg #[.int .i64 (p0_0), .int .i64 (p0_1)], .agg #[.int .i64 (p1_0), .int .i64 (p1_1)]] w0 fun e w' => e = .returned (.int .i64 (r)) ∧ Chg [] w0 w' := by
  have hB : Chg [] w0 w0 := Chg.refl _ _
  have hZ := Nat.le_refl w0.heap.size
  unfold m_impl_far at hm
  refine enterE (N := 18) Try.func73 (by rfl) Try.ntmps73 (by simp) [(0, .agg #[.int .i64 (p0_0), .int .i64 (p0_1)]), (1, .agg #[.int .i64 (p1_0), .int .i64 (p1_1)])] (by rfl) (by kernel_rfl) (fun a => ?_)
  refine cW_seq ?_
  refine cW_region ?_
  refine wS_box (d := 2) (T := 34) (x := .agg #[.int .i64 (p0_0), .int .i64 (p0_1)]) (by kernel_rfl) ?_
  intro b1 w2 G3 F4 hc5
  replace F4 : Cl w2 b1 34 [.int .i64 (p0_0), .int .i64 (p0_1)] := F4
  replace hB := hB.inS hc5 inNil
  replace G3 := Nat.le_trans hZ G3
  replace hZ := Nat.le_trans hZ hc5.size
  refine wS_box (d := 3) (T := 34) (x := .agg #[.int .i64 (p1_0), .int .i64 (p1_1)]) (by kernel_rfl) ?_
  intro b7 w8 G9 F10 hc11
  replace F10 : Cl w8 b7 34 [.int .i64 (p1_0), .int .i64 (p1_1)] := F10
  have D13 : Dj [b1] [b7] := Dj.of (lt1 F4.lt) (low1 G9)
  replace F4 := F4.chg hc11 notNil
  replace hB := hB.inS hc11 inNil
  replace G9 := Nat.le_trans hZ G9
  replace hZ := Nat.le_trans hZ hc11.size
  refine wS_pure 1 [(4, .int .i64 (0))] (by kernel_rfl) ?_
  refine wS_end (by rfl) ?_
  refine eX_then ?_
  refine cW_seq ?_
  refine cW_drawnTail [] 11 (by kernel_rfl) (by kernel_rfl) (fun w26 hc27 => ?_)
  replace F4 := F4.chg hc27 notNil
  replace F10 := F10.chg hc27 notNil
  replace hB := hB.inS hc27 inNil
  replace hZ := Nat.le_trans hZ hc27.size
  have hS := Chg.refl [] w26
  have Z28 := F4
  have Z29 := F10
  refine wH_take [0] [0] [(5, .pointer (some ⟨b1, 0, none⟩))] (by kernel_rfl) (qT (qT qZ)) (by kernel_rfl) ?_
  refine wH_load1 (i := 1) (d := 6) (T := 2) (ad := ⟨b1, 0, none⟩) (v := .int .i64 (p0_0)) (by kernel_rfl) (qT (qT qZ)) (by kernel_rfl) (by kernel_rfl) vt2 (fun W hW => (Z28.chg hW notNil).cell 0) ?_
  refine wH_take [2] [2, 1, 0] [(7, .pointer (some ⟨b7, 0, none⟩))] (by kernel_rfl) (qT (qT qZ)) (by kernel_rfl) ?_
  refine wH_load1 (i := 3) (d := 8) (T := 2) (ad := ⟨b7, 0, none⟩) (v := .int .i64 (p1_0)) (by kernel_rfl) (qT (qT qZ)) (by kernel_rfl) (by kernel_rfl) vt2 (fun W hW => (Z29.chg hW notNil).cell 0) ?_
  refine wH_take [4, 6] [6, 4, 3, 2, 1, 0] [(11, .pointer (some ⟨b1, 1, none⟩)), (9, .int .i64 (wr (p0_0 - p1_0)))] (by kernel_rfl) (qT (qT qZ)) (by kernel_rfl) ?_
  refine wH_load1 (i := 7) (d := 12) (T := 2) (ad := ⟨b1, 1, none⟩) (v := .int .i64 (p0_1)) (by kernel_rfl) (qT (qT qZ)) (by kernel_rfl) (by kernel_rfl) vt2 (fun W hW => (Z28.chg hW notNil).cell 1) ?_
  refine wH_take [8] [8, 7, 6, 4, 3, 2, 1, 0] [(13, .pointer (some ⟨b7, 1, none⟩))] (by kernel_rfl) (qT (qT qZ)) (by kernel_rfl) ?_
  refine wH_load1 (i := 9) (d := 14) (T := 2) (ad := ⟨b7, 1, none⟩) (v := .int .i64 (p1_1)) (by kernel_rfl) (qT (qT qZ)) (by kernel_rfl) (by kernel_rfl) vt2 (fun W hW => (Z29.chg hW notNil).cell 1) ?_
  refine wH_take [10] [10, 9, 8, 7, 6, 4, 3, 2, 1, 0] [(15, .int .i64 (wr (p0_1 - p1_1)))] (by kernel_rfl) (qT (qT qZ)) (by kernel_rfl) ?_
  refine wH_all [5] (by rfl) (by kernel_rfl) (by simp) ⟨⟨by kernel_rfl, ?_⟩, trivial⟩
  obtain ⟨y30, hy31, hm⟩ := bindE hm
  refine wS_calls (d := 10) (f := 118) (vs := [.int .i64 (wr (p0_0 - p1_0))]) (by kernel_rfl) ent118 (c_impl_size hy31) ?_
  rintro _ w32 ⟨rfl, hc33⟩
  replace F4 := F4.chg hc33 notNil
  replace F10 := F10.chg hc33 notNil
  replace hB := hB.inS hc33 inNil
  have hSz := hS
  replace hS := hS.inS hc33 inNil
  replace hZ := Nat.le_trans hZ hc33.size
  refine ⟨.int .i64 (y30), rfl, ?_⟩
  refine wS_end (by kernel_rfl) ?_
  refine eX_KH hS ?_
  refine wH_done (by kernel_rfl) ?_
  refine eX_tail ?_
  obtain ⟨y34, hy35, hm⟩ := bindE hm
  refine wS_calls (d := 16) (f := 118) (vs := [.int .i64 (wr (p0_1 - p1_1))]) (by kernel_rfl) ent118 (c_impl_size hy35) ?_
  rintro _ w36 ⟨rfl, hc37⟩
  replace F4 := F4.chg hc37 notNil
  replace F10 := F10.chg hc37 notNil
  replace hB := hB.inS hc37 inNil
  replace hZ := Nat.le_trans hZ hc37.size
  refine ⟨.int .i64 (y34), rfl, ?_⟩
  refine wS_pure 2 [(4, .int .i64 (wr (y30 + y34))), (17, .int .i64 (wr (y30 + y34)))] (by kernel_rfl) ?_
  refine wS_end (by rfl) ?_
  refine eX_then ?_
  refine cW_ret ?_
  have hq : (some (wr (y30 + y34)) : Option ((Int))) = some _ := hm
  replace hq := someE hq
  subst hq
  refine eX_ret (vs := [.int .i64 (wr (y30 + y34))]) [.tmp 4] (by rfl) ⟨by (show lkE _ _ _ = _); kernel_rfl, trivial⟩ ?_
  exact ⟨rfl, hB⟩

set_option maxRecDepth 100000 in
/-- impl.Point] -/
theorem c_slices_IndexFunc_impl_Point_impl_Point_impl_noPoint {w0 : World} {l0 : List (Int × Int)} {A0 : Option Addr} {cap0 : Nat} {fp0 : List Nat} {r : (Int)} (hm : m_slices_IndexFunc_impl_Point_impl_Point_impl_noPoint l0 = some r) (F0 : Sl 2 encII w0 fp0 A0 l0) :
    Calls Try.prog 117 #[.slice A0 (l0).length cap0, .func (.func 72) #[] #[]] w0 fun e w' => e = .returned (.int .i64 (r)) ∧ Chg [] w0 w' := by
  have L0 := F0.low
  have hB : Chg [] w0 w0 := Chg.refl _ _
  have hZ := Nat.le_refl w0.heap.size
  unfold m_slices_IndexFunc_impl_Point_impl_Point_impl_noPoint at hm
  refine enterE (N := 19) Try.func117 (by rfl) Try.ntmps117 (by simp) [(0, .slice A0 (l0).length cap0), (1, .func (.func 72) #[] #[])] (by rfl) (by kernel_rfl) (fun a => ?_)
  refine cW_seq ?_
  refine cW_region ?_
  refine wS_pure 1 [(4, .int .i64 (0))] (by kernel_rfl) ?_
  refine wS_end (by rfl) ?_
  refine eX_then ?_
  refine cW_seq ?_
  refine cW_seq ?_
  refine cW_region ?_
  refine wS_pure 3 [(8, .int .i64 (0)), (7, .int .i64 (((l0).length : Int))), (6, .slice A0 (l0).length cap0)] (by kernel_rfl) ?_
  refine wS_end (by rfl) ?_
  refine eX_then ?_
  obtain ⟨r29, hr30, hm⟩ := bindE hm
  have hm31 := hm
  refine cW_cut (fun a' w' => Sum.inl (()) = r29 ∧ Fr 19 [] a' ∧ Chg [] w0 w' ∧ w0.heap.size ≤ w'.heap.size) ?_ ?_
  · refine cW_block ?_
    refine cW_loop _ (fun (s32 : Int) a' w' => ∃ x26 : Int, x26 = s32 ∧ Fr 19 [(0, .slice A0 (l0).length cap0), (1, .func (.func 72) #[] #[]), (7, .int .i64 (((l0).length : Int))), (8, .int .i64 (x26))] a' ∧ Sl 2 encII w' fp0 A0 l0 ∧ Chg [] w0 w' ∧ w0.heap.size ≤ w'.heap.size) hr30 (fun hst => ⟨0, rfl, Fr.of hst (by kernel_rfl), F0, hB, hZ⟩) ?_
    rintro _ c33 a' w25 ⟨x26, rfl, hF27, F28, hB, hZ⟩ hx34
    refine Fr.goOn hF27 (by kernel_rfl) ?_
    have hm := hx34
    unfold m_slices_IndexFunc_impl_Point_impl_Point_impl_noPoint_s1 at hm
    refine cW_seq ?_
    refine cW_region ?_
    refine wS_pure 1 [(9, .bool (decide (x26 < (((l0).length : Int)))))] (by kernel_rfl) ?_
    refine wS_end (by rfl) ?_
    refine eX_then ?_
    refine cW_seq ?_
    refine cW_cond (t := decide (x26 < (((l0).length : Int)))) (by kernel_rfl) (fun hb35 => ?_) (fun hb35 => ?_)
    · have hm := condT hb35 hm
      refine cW_skip ?_
      refine eX_then ?_
      refine cW_seq ?_
      refine cW_block ?_
      refine cW_seq ?_
      refine cW_region ?_
      refine wS_pure 2 [(5, .int .i64 (x26)), (10, .int .i64 (x26))] (by kernel_rfl) ?_
      refine wS_end (by rfl) ?_
      refine eX_then ?_
      refine cW_seq ?_
      refine cW_region ?_
      refine wS_pure 3 [(13, .int .i64 (x26)), (12, .slice A0 (l0).length cap0), (11, .func (.func 72) #[] #[])] (by kernel_rfl) ?_
      obtain ⟨x36, hx37, hm⟩ := bindE hm
      refine wS_idx (d := 14) (T := 25) (A := A0) (n := (l0).length) (cap := cap0) (kd := .i64) (m := x26) (by kernel_rfl) sl25 (F28.is hx37) ?_
      refine wS_loadA (d := 15) (T := 34) (ad := (elA A0 2 (x26) 0)) (vs := [.int .i64 (x36.1), .int .i64 (x36.2)]) (by kernel_rfl) vt34 (fun i u hu => Sl.cells_at F28 hx37 0 hu (by rfl)) ?_
      obtain ⟨y38, hy39, hm⟩ := bindE hm
      refine wS_calls (d := 16) (f := 72) (vs := [.agg #[.int .i64 (x36.1), .int .i64 (x36.2)]]) (by kernel_rfl) ent72 (c_impl_noPoint hy39) ?_
      rintro _ w40 ⟨rfl, hc41⟩
      replace F28 := F28.chg hc41 Dj.nil
      replace hB := hB.inS hc41 inNil
      replace hZ := Nat.le_trans hZ hc41.size
      refine ⟨.bool (y38), rfl, ?_⟩
      refine wS_end (by rfl) ?_
      refine eX_then ?_
      refine cW_cond (t := y38) (by kernel_rfl) (fun hb42 => ?_) (fun hb42 => ?_)
      · have hm := condT hb42 hm
        refine cW_seq ?_
        refine cW_region ?_
        refine wS_pure 2 [(4, .int .i64 (x26)), (17, .int .i64 (x26))] (by kernel_rfl) ?_
        refine wS_end (by rfl) ?_
        refine eX_then ?_
        refine cW_ret ?_
        refine eX_block_ret ?_
        refine eX_then_ret ?_
        have hq : (some (Ctl.out (Sum.inr x26)) : Option (Ctl (Int) (Sum (Unit) ((Int))))) = some _ := hm
        replace hq := someE hq
        subst hq
        refine eX_outR hx34 (fun hr => ?_)
        subst hr
        refine eX_block_ret ?_
        refine eX_then_ret ?_
        refine eX_then_ret ?_
        have hq : (some x26 : Option ((Int))) = some _ := hm31
        replace hq := someE hq
        subst hq
        refine eX_ret (vs := [.int .i64 (x26)]) [.tmp 4] (by rfl) ⟨by (show lkE _ _ _ = _); kernel_rfl, trivial⟩ ?_
        exact ⟨rfl, hB⟩
      · have hm := condF hb42 hm
        refine cW_skip ?_
        refine eX_block ?_
        refine eX_then ?_
        refine cW_region ?_
        refine wS_pure 2 [(8, .int .i64 (wr (x26 + 1))), (18, .int .i64 (wr (x26 + 1)))] (by kernel_rfl) ?_
        refine wS_end (by rfl) ?_
        have hq : (some (Ctl.next (wr (x26 + 1))) : Option (Ctl (Int) (Sum (Unit) ((Int))))) = some _ := hm
        replace hq := someE hq
        subst hq
        exact eX_next hx34 (fun hst => ⟨wr (x26 + 1), rfl, Fr.of hst (by kernel_rfl), F28, hB, hZ⟩)
    · have hm := condF hb35 hm
      refine cW_exit ?_
      refine eX_then_exit ?_
      have hq : (some (Ctl.out (Sum.inl (()))) : Option (Ctl (Int) (Sum (Unit) ((Int))))) = some _ := hm
      replace hq := someE hq
      subst hq
      refine eX_outX hx34 (fun hr43 => ?_)
      replace hr43 := hr43.symm
      subst hr43
      refine eX_block_hit ?_
      exact eX_J (fun hst => ⟨rfl, Fr.of hst (by kernel_rfl), hB, hZ⟩)
  · rintro a' w23 ⟨hJ, hF24, hB, hZ⟩
    subst hJ
    refine Fr.goX hF24 (by kernel_rfl) ?_
    refine eX_then ?_
    refine cW_seq ?_
    refine cW_region ?_
    refine wS_pure 1 [(4, .int .i64 ((-1)))] (by kernel_rfl) ?_
    refine wS_end (by rfl) ?_
    refine eX_then ?_
    refine cW_ret ?_
    have hq : (some ((-1)) : Option ((Int))) = some _ := hm
    replace hq := someE hq
    subst hq
    refine eX_ret (vs := [.int .i64 ((-1))]) [.tmp 4] (by rfl) ⟨by (show lkE _ _ _ = _); kernel_rfl, trivial⟩ ?_
    exact ⟨rfl, hB⟩

set_option maxRecDepth 100000 in
/-- impl.Point] -/
theorem c_slices_ContainsFunc_impl_Point_impl_Point_impl_noPoint {w0 : World} {l0 : List (Int × Int)} {A0 : Option Addr} {cap0 : Nat} {fp0 : List Nat} {r : (Bool)} (hm : m_slices_ContainsFunc_impl_Point_impl_Point_impl_noPoint l0 = some r) (F0 : Sl 2 encII w0 fp0 A0 l0) :
    Calls Try.prog 71 #[.slice A0 (l0).length cap0, .func (.func 72) #[] #[]] w0 fun e w' => e = .returned (.bool (r)) ∧ Chg [] w0 w' := by
  have L0 := F0.low
  have hB : Chg [] w0 w0 := Chg.refl _ _
  have hZ := Nat.le_refl w0.heap.size
  unfold m_slices_ContainsFunc_impl_Point_impl_Point_impl_noPoint at hm
  refine enterE (N := 9) Try.func71 (by rfl) Try.ntmps71 (by simp) [(0, .slice A0 (l0).length cap0), (1, .func (.func 72) #[] #[])] (by rfl) (by kernel_rfl) (fun a => ?_)
  refine cW_seq ?_
  refine cW_region ?_
  refine wS_pure 1 [(4, .bool (false))] (by kernel_rfl) ?_
  refine wS_end (by rfl) ?_
  refine eX_then ?_
  refine cW_seq ?_
  refine cW_region ?_
  refine wS_pure 2 [(6, .func (.func 72) #[] #[]), (5, .slice A0 (l0).length cap0)] (by kernel_rfl) ?_
  obtain ⟨y2, hy3, hm⟩ := bindE hm
  refine wS_calls (d := 7) (f := 117) (vs := [.slice A0 (l0).length cap0, .func (.func 72) #[] #[]]) (by kernel_rfl) ent117 (c_slices_IndexFunc_impl_Point_impl_Point_impl_noPoint hy3 F0) ?_
  rintro _ w4 ⟨rfl, hc5⟩
  replace F0 := F0.chg hc5 Dj.nil
  replace hB := hB.inS hc5 inNil
  replace hZ := Nat.le_trans hZ hc5.size
  refine ⟨.int .i64 (y2), rfl, ?_⟩
  refine wS_pure 2 [(4, .bool (decide (y2 ≥ 0))), (8, .bool (decide (y2 ≥ 0)))] (by kernel_rfl) ?_
  refine wS_end (by rfl) ?_
  refine eX_then ?_
  refine cW_ret ?_
  have hq : (some (decide (y2 ≥ 0)) : Option ((Bool))) = some _ := hm
  replace hq := someE hq
  subst hq
  refine eX_ret (vs := [.bool (decide (y2 ≥ 0))]) [.tmp 4] (by rfl) ⟨by (show lkE _ _ _ = _); kernel_rfl, trivial⟩ ?_
  exact ⟨rfl, hB⟩

set_option maxRecDepth 100000 in
/-- laws.eqPoint -/
theorem c_laws_eqPoint {w0 : World} {p0_0 : Int} {p0_1 : Int} {p1_0 : Int} {p1_1 : Int} {r : (Bool)} (hm : m_laws_eqPoint p0_0 p0_1 p1_0 p1_1 = some r)  :
    Calls Try.prog 42 #[.agg #[.int .i64 (p0_0), .int .i64 (p0_1)], .agg #[.int .i64 (p1_0), .int .i64 (p1_1)]] w0 fun e w' => e = .returned (.bool (r)) ∧ Chg [] w0 w' := by
  have hB : Chg [] w0 w0 := Chg.refl _ _
  have hZ := Nat.le_refl w0.heap.size
  unfold m_laws_eqPoint at hm
  refine enterE (N := 15) Try.func42 (by rfl) Try.ntmps42 (by simp) [(0, .agg #[.int .i64 (p0_0), .int .i64 (p0_1)]), (1, .agg #[.int .i64 (p1_0), .int .i64 (p1_1)])] (by rfl) (by kernel_rfl) (fun a => ?_)
  refine cW_seq ?_
  refine cW_region ?_
  refine wS_box (d := 2) (T := 34) (x := .agg #[.int .i64 (p0_0), .int .i64 (p0_1)]) (by kernel_rfl) ?_
  intro b1 w2 G3 F4 hc5
  replace F4 : Cl w2 b1 34 [.int .i64 (p0_0), .int .i64 (p0_1)] := F4
  replace hB := hB.inS hc5 inNil
  replace G3 := Nat.le_trans hZ G3
  replace hZ := Nat.le_trans hZ hc5.size
  refine wS_box (d := 3) (T := 34) (x := .agg #[.int .i64 (p1_0), .int .i64 (p1_1)]) (by kernel_rfl) ?_
  intro b7 w8 G9 F10 hc11
  replace F10 : Cl w8 b7 34 [.int .i64 (p1_0), .int .i64 (p1_1)] := F10
  have D13 : Dj [b1] [b7] := Dj.of (lt1 F4.lt) (low1 G9)
  replace F4 := F4.chg hc11 notNil
  replace hB := hB.inS hc11 inNil
  replace G9 := Nat.le_trans hZ G9
  replace hZ := Nat.le_trans hZ hc11.size
  refine wS_pure 1 [(4, .bool (false))] (by kernel_rfl) ?_
  refine wS_end (by rfl) ?_
  refine eX_then ?_
  refine cW_seq ?_
  refine cW_seq ?_
  refine cW_region ?_
  refine wS_pure 1 [(5, .pointer (some ⟨b1, 0, none⟩))] (by kernel_rfl) ?_
  refine wS_load1 (d := 6) (T := 2) (ad := ⟨b1, 0, none⟩) (v := .int .i64 (p0_0)) (by kernel_rfl) vt2 ((F4).cell 0) ?_
  refine wS_pure 1 [(7, .pointer (some ⟨b7, 0, none⟩))] (by kernel_rfl) ?_
  refine wS_load1 (d := 8) (T := 2) (ad := ⟨b7, 0, none⟩) (v := .int .i64 (p1_0)) (by kernel_rfl) vt2 ((F10).cell 0) ?_
  refine wS_pure 1 [(9, .bool (p0_0 != p1_0))] (by kernel_rfl) ?_
  refine wS_end (by rfl) ?_
  refine eX_then ?_
  refine cW_cond (t := p0_0 != p1_0) (by kernel_rfl) (fun hb14 => ?_) (fun hb14 => ?_)
  · have hm := condT hb14 hm
    refine cW_seq ?_
    refine cW_region ?_
    refine wS_pure 1 [(4, .bool (false))] (by kernel_rfl) ?_
    refine wS_end (by rfl) ?_
    refine eX_then ?_
    refine cW_ret ?_
    refine eX_then_ret ?_
    have hq : (some false : Option ((Bool))) = some _ := hm
    replace hq := someE hq
    subst hq
    refine eX_ret (vs := [.bool (false)]) [.tmp 4] (by rfl) ⟨by (show lkE _ _ _ = _); kernel_rfl, trivial⟩ ?_
    exact ⟨rfl, hB⟩
  · have hm := condF hb14 hm
    refine cW_skip ?_
    refine eX_then ?_
    refine cW_seq ?_
    refine cW_seq ?_
    refine cW_region ?_
    refine wS_pure 1 [(10, .pointer (some ⟨b1, 1, none⟩))] (by kernel_rfl) ?_
    refine wS_load1 (d := 11) (T := 2) (ad := ⟨b1, 1, none⟩) (v := .int .i64 (p0_1)) (by kernel_rfl) vt2 ((F4).cell 1) ?_
    refine wS_pure 1 [(12, .pointer (some ⟨b7, 1, none⟩))] (by kernel_rfl) ?_
    refine wS_load1 (d := 13) (T := 2) (ad := ⟨b7, 1, none⟩) (v := .int .i64 (p1_1)) (by kernel_rfl) vt2 ((F10).cell 1) ?_
    refine wS_pure 1 [(14, .bool (p0_1 != p1_1))] (by kernel_rfl) ?_
    refine wS_end (by rfl) ?_
    refine eX_then ?_
    refine cW_cond (t := p0_1 != p1_1) (by kernel_rfl) (fun hb15 => ?_) (fun hb15 => ?_)
    · have hm := condT hb15 hm
      refine cW_seq ?_
      refine cW_region ?_
      refine wS_pure 1 [(4, .bool (false))] (by kernel_rfl) ?_
      refine wS_end (by rfl) ?_
      refine eX_then ?_
      refine cW_ret ?_
      refine eX_then_ret ?_
      have hq : (some false : Option ((Bool))) = some _ := hm
      replace hq := someE hq
      subst hq
      refine eX_ret (vs := [.bool (false)]) [.tmp 4] (by rfl) ⟨by (show lkE _ _ _ = _); kernel_rfl, trivial⟩ ?_
      exact ⟨rfl, hB⟩
    · have hm := condF hb15 hm
      refine cW_skip ?_
      refine eX_then ?_
      refine cW_seq ?_
      refine cW_region ?_
      refine wS_pure 1 [(4, .bool (true))] (by kernel_rfl) ?_
      refine wS_end (by rfl) ?_
      refine eX_then ?_
      refine cW_ret ?_
      have hq : (some true : Option ((Bool))) = some _ := hm
      replace hq := someE hq
      subst hq
      refine eX_ret (vs := [.bool (true)]) [.tmp 4] (by rfl) ⟨by (show lkE _ _ _ = _); kernel_rfl, trivial⟩ ?_
      exact ⟨rfl, hB⟩

set_option maxRecDepth 100000 in
/-- laws.eqPointS -/
theorem c_laws_eqPointS {w0 : World} {l0 : List (Int × Int)} {A0 : Option Addr} {cap0 : Nat} {fp0 : List Nat} {l1 : List (Int × Int)} {A1 : Option Addr} {cap1 : Nat} {fp1 : List Nat} {r : (Bool)} (hm : m_laws_eqPointS l0 l1 = some r) (F0 : Sl 2 encII w0 fp0 A0 l0) (F1 : Sl 2 encII w0 fp1 A1 l1) :
    Calls Try.prog 24 #[.slice A0 (l0).length cap0, .slice A1 (l1).length cap1] w0 fun e w' => e = .returned (.bool (r)) ∧ Chg [] w0 w' := by
  have L0 := F0.low
  have L1 := F1.low
  have hB : Chg [] w0 w0 := Chg.refl _ _
  have hZ := Nat.le_refl w0.heap.size
  unfold m_laws_eqPointS at hm
  refine enterE (N := 27) Try.func24 (by rfl) Try.ntmps24 (by simp) [(0, .slice A0 (l0).length cap0), (1, .slice A1 (l1).length cap1)] (by rfl) (by kernel_rfl) (fun a => ?_)
  refine cW_seq ?_
  refine cW_region ?_
  refine wS_pure 1 [(4, .bool (false))] (by kernel_rfl) ?_
  refine wS_end (by rfl) ?_
  refine eX_then ?_
  refine cW_seq ?_
  refine cW_seq ?_
  refine cW_region ?_
  refine wS_pure 5 [(10, .bool ((((l0).length : Int)) != (((l1).length : Int)))), (9, .int .i64 (((l1).length : Int))), (8, .slice A1 (l1).length cap1), (7, .int .i64 (((l0).length : Int))), (6, .slice A0 (l0).length cap0)] (by kernel_rfl) ?_
  refine wS_end (by rfl) ?_
  refine eX_then ?_
  refine cW_cond (t := (((l0).length : Int)) != (((l1).length : Int))) (by kernel_rfl) (fun hb3 => ?_) (fun hb3 => ?_)
  · have hm := condT hb3 hm
    refine cW_seq ?_
    refine cW_region ?_
    refine wS_pure 1 [(4, .bool (false))] (by kernel_rfl) ?_
    refine wS_end (by rfl) ?_
    refine eX_then ?_
    refine cW_ret ?_
    refine eX_then_ret ?_
    have hq : (some false : Option ((Bool))) = some _ := hm
    replace hq := someE hq
    subst hq
    refine eX_ret (vs := [.bool (false)]) [.tmp 4] (by rfl) ⟨by (show lkE _ _ _ = _); kernel_rfl, trivial⟩ ?_
    exact ⟨rfl, hB⟩
  · have hm := condF hb3 hm
    refine cW_skip ?_
    refine eX_then ?_
    refine cW_seq ?_
    refine cW_seq ?_
    refine cW_region ?_
    refine wS_pure 1 [(5, .int .i64 (0))] (by kernel_rfl) ?_
    refine wS_end (by rfl) ?_
    refine eX_then ?_
    obtain ⟨r70, hr71, hm⟩ := bindE hm
    have hm72 := hm
    refine cW_cut (fun a' w' => Sum.inl (()) = r70 ∧ Fr 27 [] a' ∧ Chg [] w0 w' ∧ w0.heap.size ≤ w'.heap.size) ?_ ?_
    · refine cW_block ?_
      refine cW_loop _ (fun (s73 : Int) a' w' => ∃ x66 : Int, x66 = s73 ∧ Fr 27 [(0, .slice A0 (l0).length cap0), (1, .slice A1 (l1).length cap1), (5, .int .i64 (x66))] a' ∧ Sl 2 encII w' fp0 A0 l0 ∧ Sl 2 encII w' fp1 A1 l1 ∧ Chg [] w0 w' ∧ w0.heap.size ≤ w'.heap.size) hr71 (fun hst => ⟨0, rfl, Fr.of hst (by kernel_rfl), F0, F1, hB, hZ⟩) ?_
      rintro _ c74 a' w65 ⟨x66, rfl, hF67, F68, F69, hB, hZ⟩ hx75
      refine Fr.goOn hF67 (by kernel_rfl) ?_
      have hm := hx75
      unfold m_laws_eqPointS_s1 at hm
      refine cW_seq ?_
      refine cW_seq ?_
      refine cW_region ?_
      refine wS_pure 4 [(14, .bool (decide (x66 < (((l0).length : Int))))), (13, .int .i64 (((l0).length : Int))), (12, .slice A0 (l0).length cap0), (11, .int .i64 (x66))] (by kernel_rfl) ?_
      refine wS_end (by rfl) ?_
      refine eX_then ?_
      refine cW_cond (t := decide (x66 < (((l0).length : Int)))) (by kernel_rfl) (fun hb76 => ?_) (fun hb76 => ?_)
      · have hm := condT hb76 hm
        refine cW_skip ?_
        refine eX_then ?_
        refine cW_seq ?_
        refine cW_block ?_
        refine cW_seq ?_
        refine cW_drawnTail [] 8 (by kernel_rfl) (by kernel_rfl) (fun w89 hc90 => ?_)
        replace F68 := F68.chg hc90 Dj.nil
        replace F69 := F69.chg hc90 Dj.nil
        replace hB := hB.inS hc90 inNil
        replace hZ := Nat.le_trans hZ hc90.size
        have hS := Chg.refl [] w89
        have Z91 := F68
        have Z92 := F69
        refine wH_take [0, 1] [1, 0] [(18, .int .i64 (x66)), (17, .slice A0 (l0).length cap0)] (by kernel_rfl) (qT (qT (qB (qT (qL (qB (qT (qT qZ)))))))) (by kernel_rfl) ?_
        obtain ⟨x93, hx94, hm⟩ := bindE hm
        refine wH_idx (i := 2) (d := 19) (T := 25) (A := A0) (n := (l0).length) (cap := cap0) (kd := .i64) (m := x66) (by kernel_rfl) (qT (qT (qB (qT (qL (qB (qT (qT qZ)))))))) (by kernel_rfl) (by kernel_rfl) sl25 (F68.is hx94) ?_
        refine wH_loadA (i := 3) (d := 20) (T := 34) (ad := (elA A0 2 (x66) 0)) (vs := [.int .i64 (x93.1), .int .i64 (x93.2)]) (by kernel_rfl) (qT (qT (qB (qT (qL (qB (qT (qT qZ)))))))) (by kernel_rfl) (by kernel_rfl) vt34 (fun W hW i u hu => Sl.cells_at (Z91.chg hW Dj.nil) hx94 0 hu (by rfl)) ?_
        refine wH_take [4, 5] [5, 4, 3, 2, 1, 0] [(22, .int .i64 (x66)), (21, .slice A1 (l1).length cap1)] (by kernel_rfl) (qT (qT (qB (qT (qL (qB (qT (qT qZ)))))))) (by kernel_rfl) ?_
        obtain ⟨x95, hx96, hm⟩ := bindE hm
        refine wH_idx (i := 6) (d := 23) (T := 25) (A := A1) (n := (l1).length) (cap := cap1) (kd := .i64) (m := x66) (by kernel_rfl) (qT (qT (qB (qT (qL (qB (qT (qT qZ)))))))) (by kernel_rfl) (by kernel_rfl) sl25 (F69.is hx96) ?_
        refine wH_loadA (i := 7) (d := 24) (T := 34) (ad := (elA A1 2 (x66) 0)) (vs := [.int .i64 (x95.1), .int .i64 (x95.2)]) (by kernel_rfl) (qT (qT (qB (qT (qL (qB (qT (qT qZ)))))))) (by kernel_rfl) (by kernel_rfl) vt34 (fun W hW i u hu => Sl.cells_at (Z92.chg hW Dj.nil) hx96 0 hu (by rfl)) ?_
        refine wH_done (by kernel_rfl) ?_
        refine eX_tail ?_
        obtain ⟨y97, hy98, hm⟩ := bindE hm
        refine wS_calls (d := 25) (f := 42) (vs := [.agg #[.int .i64 (x93.1), .int .i64 (x93.2)], .agg #[.int .i64 (x95.1), .int .i64 (x95.2)]]) (by kernel_rfl) ent42 (c_laws_eqPoint hy98) ?_
        rintro _ w99 ⟨rfl, hc100⟩
        replace F68 := F68.chg hc100 Dj.nil
        replace F69 := F69.chg hc100 Dj.nil
        replace hB := hB.inS hc100 inNil
        replace hZ := Nat.le_trans hZ hc100.size
        refine ⟨.bool (y97), rfl, ?_⟩
        refine wS_pure 1 [(26, .bool (!y97))] (by kernel_rfl) ?_
        refine wS_end (by rfl) ?_
        refine eX_then ?_
        refine cW_cond (t := !y97) (by kernel_rfl) (fun hb101 => ?_) (fun hb101 => ?_)
        · have hm := condT hb101 hm
          refine cW_seq ?_
          refine cW_region ?_
          refine wS_pure 1 [(4, .bool (false))] (by kernel_rfl) ?_
          refine wS_end (by rfl) ?_
          refine eX_then ?_
          refine cW_ret ?_
          refine eX_block_ret ?_
          refine eX_then_ret ?_
          have hq : (some (Ctl.out (Sum.inr false)) : Option (Ctl (Int) (Sum (Unit) ((Bool))))) = some _ := hm
          replace hq := someE hq
          subst hq
          refine eX_outR hx75 (fun hr => ?_)
          subst hr
          refine eX_block_ret ?_
          refine eX_then_ret ?_
          refine eX_then_ret ?_
          have hq : (some false : Option ((Bool))) = some _ := hm72
          replace hq := someE hq
          subst hq
          refine eX_ret (vs := [.bool (false)]) [.tmp 4] (by rfl) ⟨by (show lkE _ _ _ = _); kernel_rfl, trivial⟩ ?_
          exact ⟨rfl, hB⟩
        · have hm := condF hb101 hm
          refine cW_skip ?_
          refine eX_block ?_
          refine eX_then ?_
          refine cW_region ?_
          refine wS_pure 3 [(5, .int .i64 (wr (x66 + 1))), (16, .int .i64 (wr (x66 + 1))), (15, .int .i64 (x66))] (by kernel_rfl) ?_
          refine wS_end (by rfl) ?_
          have hq : (some (Ctl.next (wr (x66 + 1))) : Option (Ctl (Int) (Sum (Unit) ((Bool))))) = some _ := hm
          replace hq := someE hq
          subst hq
          exact eX_next hx75 (fun hst => ⟨wr (x66 + 1), rfl, Fr.of hst (by kernel_rfl), F68, F69, hB, hZ⟩)
      · have hm := condF hb76 hm
        refine cW_exit ?_
        refine eX_then_exit ?_
        have hq : (some (Ctl.out (Sum.inl (()))) : Option (Ctl (Int) (Sum (Unit) ((Bool))))) = some _ := hm
        replace hq := someE hq
        subst hq
        refine eX_outX hx75 (fun hr102 => ?_)
        replace hr102 := hr102.symm
        subst hr102
        refine eX_block_hit ?_
        exact eX_J (fun hst => ⟨rfl, Fr.of hst (by kernel_rfl), hB, hZ⟩)
    · rintro a' w63 ⟨hJ, hF64, hB, hZ⟩
      subst hJ
      refine Fr.goX hF64 (by kernel_rfl) ?_
      refine eX_then ?_
      refine cW_seq ?_
      refine cW_region ?_
      refine wS_pure 1 [(4, .bool (true))] (by kernel_rfl) ?_
      refine wS_end (by rfl) ?_
      refine eX_then ?_
      refine cW_ret ?_
      have hq : (some true : Option ((Bool))) = some _ := hm
      replace hq := someE hq
      subst hq
      refine eX_ret (vs := [.bool (true)]) [.tmp 4] (by rfl) ⟨by (show lkE _ _ _ = _); kernel_rfl, trivial⟩ ?_
      exact ⟨rfl, hB⟩

set_option maxRecDepth 100000 in
/-- spec.l05Is -/
theorem c_spec_l05Is {w0 : World} {l0 : List (Int × Int)} {A0 : Option Addr} {cap0 : Nat} {fp0 : List Nat} {r : (Bool)} (hm : m_spec_l05Is l0 = some r) (F0 : Sl 2 encII w0 fp0 A0 l0) (K0 : (l0).length ≤ cap0) :
    Calls Try.prog 75 #[.slice A0 (l0).length cap0] w0 fun e w' => e = .returned (.bool (r)) ∧ Chg [] w0 w' := by
  have L0 := F0.low
  have hB : Chg [] w0 w0 := Chg.refl _ _
  have hZ := Nat.le_refl w0.heap.size
  unfold m_spec_l05Is at hm
  refine enterE (N := 35) Try.func75 (by rfl) Try.ntmps75 (by simp) [(0, .slice A0 (l0).length cap0)] (by rfl) (by kernel_rfl) (fun a => ?_)
  refine cW_seq ?_
  refine cW_region ?_
  refine wS_pure 1 [(2, .bool (false))] (by kernel_rfl) ?_
  refine wS_end (by rfl) ?_
  refine eX_then ?_
  refine cW_seq ?_
  refine cW_seq ?_
  refine cW_region ?_
  refine wS_pure 4 [(7, .bool (decide ((((l0).length : Int)) < 1))), (6, .bool (decide ((((l0).length : Int)) < 1))), (5, .int .i64 (((l0).length : Int))), (4, .slice A0 (l0).length cap0)] (by kernel_rfl) ?_
  refine wS_bool (decide ((((l0).length : Int)) < 1)) (fun hb2 => ?_) (fun hb2 => ?_)
  · have hm := condT hb2 hm
    rewrite [hb2]
    refine wS_pure 4 [(11, .bool (true)), (10, undef), (9, undef), (8, undef)] (by kernel_rfl) ?_
    refine wS_end (by rfl) ?_
    refine eX_then ?_
    refine cW_cond_t (by kernel_rfl) ?_
    refine cW_seq ?_
    refine cW_region ?_
    refine wS_pure 1 [(2, .bool (false))] (by kernel_rfl) ?_
    refine wS_end (by rfl) ?_
    refine eX_then ?_
    refine cW_ret ?_
    refine eX_then_ret ?_
    have hq : (some false : Option ((Bool))) = some _ := hm
    replace hq := someE hq
    subst hq
    refine eX_ret (vs := [.bool (false)]) [.tmp 2] (by rfl) ⟨by (show lkE _ _ _ = _); kernel_rfl, trivial⟩ ?_
    exact ⟨rfl, hB⟩
  · have hm := condF hb2 hm
    rewrite [hb2]
    refine wS_pure 4 [(11, .bool (decide ((((l0).length : Int)) > 20))), (10, .bool (decide ((((l0).length : Int)) > 20))), (9, .int .i64 (((l0).length : Int))), (8, .slice A0 (l0).length cap0)] (by kernel_rfl) ?_
    refine wS_end (by rfl) ?_
    refine eX_then ?_
    refine cW_cond (t := decide ((((l0).length : Int)) > 20)) (by kernel_rfl) (fun hb3 => ?_) (fun hb3 => ?_)
    · have hm := condT hb3 hm
      refine cW_seq ?_
      refine cW_region ?_
      refine wS_pure 1 [(2, .bool (false))] (by kernel_rfl) ?_
      refine wS_end (by rfl) ?_
      refine eX_then ?_
      refine cW_ret ?_
      refine eX_then_ret ?_
      have hq : (some false : Option ((Bool))) = some _ := hm
      replace hq := someE hq
      subst hq
      refine eX_ret (vs := [.bool (false)]) [.tmp 2] (by rfl) ⟨by (show lkE _ _ _ = _); kernel_rfl, trivial⟩ ?_
      exact ⟨rfl, hB⟩
    · have hm := condF hb3 hm
      refine cW_skip ?_
      refine eX_then ?_
      refine cW_seq ?_
      refine cW_seq ?_
      refine cW_region ?_
      refine wS_pure 1 [(3, .int .i64 (0))] (by kernel_rfl) ?_
      refine wS_end (by rfl) ?_
      refine eX_then ?_
      obtain ⟨r123, hr124, hm⟩ := bindE hm
      have hm125 := hm
      refine cW_cut (fun a' w' => Sum.inl (()) = r123 ∧ Fr 35 [] a' ∧ Chg [] w0 w' ∧ w0.heap.size ≤ w'.heap.size) ?_ ?_
      · refine cW_block ?_
        refine cW_loop _ (fun (s126 : Int) a' w' => ∃ x120 : Int, x120 = s126 ∧ Fr 35 [(0, .slice A0 (l0).length cap0), (3, .int .i64 (x120))] a' ∧ Sl 2 encII w' fp0 A0 l0 ∧ Chg [] w0 w' ∧ w0.heap.size ≤ w'.heap.size) hr124 (fun hst => ⟨0, rfl, Fr.of hst (by kernel_rfl), F0, hB, hZ⟩) ?_
        rintro _ c127 a' w119 ⟨x120, rfl, hF121, F122, hB, hZ⟩ hx128
        refine Fr.goOn hF121 (by kernel_rfl) ?_
        have hm := hx128
        unfold m_spec_l05Is_s1 at hm
        refine cW_seq ?_
        refine cW_seq ?_
        refine cW_region ?_
        refine wS_pure 4 [(15, .bool (decide (x120 < (((l0).length : Int))))), (14, .int .i64 (((l0).length : Int))), (13, .slice A0 (l0).length cap0), (12, .int .i64 (x120))] (by kernel_rfl) ?_
        refine wS_end (by rfl) ?_
        refine eX_then ?_
        refine cW_cond (t := decide (x120 < (((l0).length : Int)))) (by kernel_rfl) (fun hb129 => ?_) (fun hb129 => ?_)
        · have hm := condT hb129 hm
          refine cW_skip ?_
          refine eX_then ?_
          refine cW_seq ?_
          refine cW_block ?_
          refine cW_seq ?_
          refine cW_drawnTail [] 14 (by kernel_rfl) (by kernel_rfl) (fun w155 hc156 => ?_)
          replace F122 := F122.chg hc156 Dj.nil
          replace hB := hB.inS hc156 inNil
          replace hZ := Nat.le_trans hZ hc156.size
          have hS := Chg.refl [] w155
          have Z157 := F122
          refine wH_take [0, 1] [1, 0] [(19, .int .i64 (x120)), (18, .slice A0 (l0).length cap0)] (by kernel_rfl) (qT (qT (qB (qT (qL (qB (qT (qT qZ)))))))) (by kernel_rfl) ?_
          obtain ⟨x158, hx159, hm⟩ := bindE hm
          refine wH_idx (i := 2) (d := 20) (T := 25) (A := A0) (n := (l0).length) (cap := cap0) (kd := .i64) (m := x120) (by kernel_rfl) (qT (qT (qB (qT (qL (qB (qT (qT qZ)))))))) (by kernel_rfl) (by kernel_rfl) sl25 (F122.is hx159) ?_
          refine wH_loadA (i := 3) (d := 21) (T := 34) (ad := (elA A0 2 (x120) 0)) (vs := [.int .i64 (x158.1), .int .i64 (x158.2)]) (by kernel_rfl) (qT (qT (qB (qT (qL (qB (qT (qT qZ)))))))) (by kernel_rfl) (by kernel_rfl) vt34 (fun W hW i u hu => Sl.cells_at (Z157.chg hW Dj.nil) hx159 0 hu (by rfl)) ?_
          refine wH_all [4] (by rfl) (by kernel_rfl) (by simp) ⟨⟨by kernel_rfl, ?_⟩, trivial⟩
          obtain ⟨y160, hy161, hm⟩ := bindE hm
          refine wS_calls (d := 22) (f := 76) (vs := [.agg #[.int .i64 (x158.1), .int .i64 (x158.2)]]) (by kernel_rfl) ent76 (c_spec_l01Point hy161) ?_
          rintro _ w162 ⟨rfl, hc163⟩
          replace F122 := F122.chg hc163 Dj.nil
          replace hB := hB.inS hc163 inNil
          have hSz := hS
          replace hS := hS.inS hc163 inNil
          replace hZ := Nat.le_trans hZ hc163.size
          refine ⟨.bool (y160), rfl, ?_⟩
          refine wS_end (by kernel_rfl) ?_
          refine eX_KH hS ?_
          refine wH_take [5, 6] [6, 5, 4, 3, 2, 1, 0] [(24, .bool (!y160)), (23, .bool (!y160))] (by kernel_rfl) (qT (qT (qB (qT (qL (qB (qT (qT qZ)))))))) (by kernel_rfl) ?_
          refine wH_bool (!y160) (fun hb164 => ?_) (fun hb164 => ?_)
          · have hm := condT hb164 hm
            rewrite [hb164]
            refine wH_take [7, 8, 9, 10, 11, 12, 13] [13, 12, 11, 10, 9, 8, 7, 6, 5, 4, 3, 2, 1, 0] [(31, undef), (30, undef), (29, undef), (28, undef), (27, undef), (26, undef), (25, undef)] (by kernel_rfl) (qT (qT (qB (qT (qL (qB (qT (qT qZ)))))))) (by kernel_rfl) ?_
            refine wH_done (by kernel_rfl) ?_
            refine eX_tail ?_
            refine wS_pure 3 [(34, .bool (true)), (33, undef), (32, undef)] (by kernel_rfl) ?_
            refine wS_end (by rfl) ?_
            refine eX_then ?_
            refine cW_cond_t (by kernel_rfl) ?_
            refine cW_seq ?_
            refine cW_region ?_
            refine wS_pure 1 [(2, .bool (false))] (by kernel_rfl) ?_
            refine wS_end (by rfl) ?_
            refine eX_then ?_
            refine cW_prune [(2, .bool (false))] (by kernel_rfl) (by kernel_rfl) (fun a165 => ?_)
            refine cW_ret ?_
            refine eX_block_ret ?_
            refine eX_then_ret ?_
            have hq : (some (Ctl.out (Sum.inr false)) : Option (Ctl (Int) (Sum (Unit) ((Bool))))) = some _ := hm
            replace hq := someE hq
            subst hq
            refine eX_outR hx128 (fun hr => ?_)
            subst hr
            refine eX_block_ret ?_
            refine eX_then_ret ?_
            refine eX_then_ret ?_
            have hq : (some false : Option ((Bool))) = some _ := hm125
            replace hq := someE hq
            subst hq
            refine eX_ret (vs := [.bool (false)]) [.tmp 2] (by rfl) ⟨by (show lkE _ _ _ = _); kernel_rfl, trivial⟩ ?_
            exact ⟨rfl, hB⟩
          · have hm := condF hb164 hm
            rewrite [hb164]
            refine wH_take [7, 8] [8, 7, 6, 5, 4, 3, 2, 1, 0] [(26, .int .i64 (x120)), (25, .slice A0 (l0).length cap0)] (by kernel_rfl) (qT (qT (qB (qT (qL (qB (qT (qT qZ)))))))) (by kernel_rfl) ?_
            obtain ⟨y166, hy167, hm⟩ := bindE hm
            refine wH_slice (k := 2) (enc := encII) (fp := fp0) (l := l0) (i := 9) (d := 27) (T := 25) (A := A0) (cap := cap0) (vlo := none) (vhi := some (.int .i64 (x120))) (lo := 0) (hi := x120) (n := 0) (by kernel_rfl) (qT (qT (qB (qT (qL (qB (qT (qT qZ)))))))) (by kernel_rfl) (by kernel_rfl) sl25 (Or.inr ⟨rfl, rfl⟩) (Or.inl rfl) K0 hy167 ?_
            intro A168 cap169 hcut170 hcap171
            have F172 := hcut170 _ F122
            have Fz173 := hcut170 _ Z157
            refine wH_take [10, 11] [11, 10, 9, 8, 7, 6, 5, 4, 3, 2, 1, 0] [(29, .int .i64 (x120)), (28, .slice A0 (l0).length cap0)] (by kernel_rfl) (qT (qT (qB (qT (qL (qB (qT (qT qZ)))))))) (by kernel_rfl) ?_
            obtain ⟨x175, hx176, hm⟩ := bindE hm
            refine wH_idx (i := 12) (d := 30) (T := 25) (A := A0) (n := (l0).length) (cap := cap0) (kd := .i64) (m := x120) (by kernel_rfl) (qT (qT (qB (qT (qL (qB (qT (qT qZ)))))))) (by kernel_rfl) (by kernel_rfl) sl25 (F122.is hx176) ?_
            refine wH_loadA (i := 13) (d := 31) (T := 34) (ad := (elA A0 2 (x120) 0)) (vs := [.int .i64 (x175.1), .int .i64 (x175.2)]) (by kernel_rfl) (qT (qT (qB (qT (qL (qB (qT (qT qZ)))))))) (by kernel_rfl) (by kernel_rfl) vt34 (fun W hW i u hu => Sl.cells_at (Z157.chg hW Dj.nil) hx176 0 hu (by rfl)) ?_
            refine wH_done (by kernel_rfl) ?_
            refine eX_tail ?_
            obtain ⟨y177, hy178, hm⟩ := bindE hm
            refine wS_calls (d := 32) (f := 95) (vs := [.slice A168 (y166).length cap169, .agg #[.int .i64 (x175.1), .int .i64 (x175.2)]]) (by kernel_rfl) ent95 (c_spec_l01Index hy178 F172) ?_
            rintro _ w179 ⟨rfl, hc180⟩
            replace F122 := F122.chg hc180 Dj.nil
            replace F172 := F172.chg hc180 Dj.nil
            replace hB := hB.inS hc180 inNil
            replace hZ := Nat.le_trans hZ hc180.size
            refine ⟨.int .i64 (y177), rfl, ?_⟩
            refine wS_pure 2 [(34, .bool (decide (y177 ≥ 0))), (33, .bool (decide (y177 ≥ 0)))] (by kernel_rfl) ?_
            refine wS_end (by rfl) ?_
            refine eX_then ?_
            refine cW_cond (t := decide (y177 ≥ 0)) (by kernel_rfl) (fun hb181 => ?_) (fun hb181 => ?_)
            · have hm := condT hb181 hm
              refine cW_seq ?_
              refine cW_region ?_
              refine wS_pure 1 [(2, .bool (false))] (by kernel_rfl) ?_
              refine wS_end (by rfl) ?_
              refine eX_then ?_
              refine cW_prune [(2, .bool (false))] (by kernel_rfl) (by kernel_rfl) (fun a182 => ?_)
              refine cW_ret ?_
              refine eX_block_ret ?_
              refine eX_then_ret ?_
              have hq : (some (Ctl.out (Sum.inr false)) : Option (Ctl (Int) (Sum (Unit) ((Bool))))) = some _ := hm
              replace hq := someE hq
              subst hq
              refine eX_outR hx128 (fun hr => ?_)
              subst hr
              refine eX_block_ret ?_
              refine eX_then_ret ?_
              refine eX_then_ret ?_
              have hq : (some false : Option ((Bool))) = some _ := hm125
              replace hq := someE hq
              subst hq
              refine eX_ret (vs := [.bool (false)]) [.tmp 2] (by rfl) ⟨by (show lkE _ _ _ = _); kernel_rfl, trivial⟩ ?_
              exact ⟨rfl, hB⟩
            · have hm := condF hb181 hm
              refine cW_skip ?_
              refine eX_block ?_
              refine eX_then ?_
              refine cW_region ?_
              refine wS_pure 3 [(3, .int .i64 (wr (x120 + 1))), (17, .int .i64 (wr (x120 + 1))), (16, .int .i64 (x120))] (by kernel_rfl) ?_
              refine wS_end (by rfl) ?_
              have hq : (some (Ctl.next (wr (x120 + 1))) : Option (Ctl (Int) (Sum (Unit) ((Bool))))) = some _ := hm
              replace hq := someE hq
              subst hq
              exact eX_next hx128 (fun hst => ⟨wr (x120 + 1), rfl, Fr.of hst (by kernel_rfl), F122, hB, hZ⟩)
        · have hm := condF hb129 hm
          refine cW_exit ?_
          refine eX_then_exit ?_
          have hq : (some (Ctl.out (Sum.inl (()))) : Option (Ctl (Int) (Sum (Unit) ((Bool))))) = some _ := hm
          replace hq := someE hq
          subst hq
          refine eX_outX hx128 (fun hr183 => ?_)
          replace hr183 := hr183.symm
          subst hr183
          refine eX_block_hit ?_
          exact eX_J (fun hst => ⟨rfl, Fr.of hst (by kernel_rfl), hB, hZ⟩)
      · rintro a' w117 ⟨hJ, hF118, hB, hZ⟩
        subst hJ
        refine Fr.goX hF118 (by kernel_rfl) ?_
        refine eX_then ?_
        refine cW_seq ?_
        refine cW_region ?_
        refine wS_pure 1 [(2, .bool (true))] (by kernel_rfl) ?_
        refine wS_end (by rfl) ?_
        refine eX_then ?_
        refine cW_ret ?_
        have hq : (some true : Option ((Bool))) = some _ := hm
        replace hq := someE hq
        subst hq
        refine eX_ret (vs := [.bool (true)]) [.tmp 2] (by rfl) ⟨by (show lkE _ _ _ = _); kernel_rfl, trivial⟩ ?_
        exact ⟨rfl, hB⟩

set_option maxRecDepth 100000 in
/-- impl.pinsOk -/
theorem c_impl_pinsOk {w0 : World} {l0 : List (Int × Int)} {A0 : Option Addr} {cap0 : Nat} {fp0 : List Nat} {p1 : Int} {r : (Bool)} (hm : m_impl_pinsOk l0 p1 = some r) (F0 : Sl 2 encII w0 fp0 A0 l0) :
    Calls Try.prog 88 #[.slice A0 (l0).length cap0, .int .i64 (p1)] w0 fun e w' => e = .returned (.bool (r)) ∧ Chg [] w0 w' := by
  have L0 := F0.low
  have hB : Chg [] w0 w0 := Chg.refl _ _
  have hZ := Nat.le_refl w0.heap.size
  unfold m_impl_pinsOk at hm
  refine enterE (N := 27) Try.func88 (by rfl) Try.ntmps88 (by simp) [(0, .slice A0 (l0).length cap0), (1, .int .i64 (p1))] (by rfl) (by kernel_rfl) (fun a => ?_)
  refine cW_seq ?_
  refine cW_region ?_
  refine wS_pure 1 [(4, .bool (false))] (by kernel_rfl) ?_
  refine wS_end (by rfl) ?_
  refine eX_then ?_
  refine cW_seq ?_
  refine cW_region ?_
  refine wS_pure 4 [(8, .bool (decide ((((l0).length : Int)) ≥ 1))), (7, .bool (decide ((((l0).length : Int)) ≥ 1))), (6, .int .i64 (((l0).length : Int))), (5, .slice A0 (l0).length cap0)] (by kernel_rfl) ?_
  refine wS_bool (decide ((((l0).length : Int)) ≥ 1)) (fun hb2 => ?_) (fun hb2 => ?_)
  · have hm := condT hb2 hm
    rewrite [hb2]
    refine wS_pure 6 [(14, .bool (decide ((((l0).length : Int)) ≤ p1))), (13, .bool (decide ((((l0).length : Int)) ≤ p1))), (12, .bool (decide ((((l0).length : Int)) ≤ p1))), (11, .int .i64 (p1)), (10, .int .i64 (((l0).length : Int))), (9, .slice A0 (l0).length cap0)] (by kernel_rfl) ?_
    refine wS_bool (decide ((((l0).length : Int)) ≤ p1)) (fun hb3 => ?_) (fun hb3 => ?_)
    · have hm := condT hb3 hm
      rewrite [hb3]
      refine wS_pure 1 [(15, .slice A0 (l0).length cap0)] (by kernel_rfl) ?_
      obtain ⟨y4, hy5, hm⟩ := bindE hm
      refine wS_calls (d := 16) (f := 71) (vs := [.slice A0 (l0).length cap0, .func (.func 72) #[] #[]]) (by kernel_rfl) ent71 (c_slices_ContainsFunc_impl_Point_impl_Point_impl_noPoint hy5 F0) ?_
      rintro _ w6 ⟨rfl, hc7⟩
      replace F0 := F0.chg hc7 Dj.nil
      replace hB := hB.inS hc7 inNil
      replace hZ := Nat.le_trans hZ hc7.size
      refine ⟨.bool (y4), rfl, ?_⟩
      refine wS_pure 3 [(19, .bool (!y4)), (18, .bool (!y4)), (17, .bool (!y4))] (by kernel_rfl) ?_
      refine wS_bool (!y4) (fun hb8 => ?_) (fun hb8 => ?_)
      · have hm := condT hb8 hm
        rewrite [hb8]
        refine wS_pure 1 [(20, .slice A0 (l0).length cap0)] (by kernel_rfl) ?_
        obtain ⟨y9, hy10, hm⟩ := bindE hm
        refine wS_calls (d := 21) (f := 74) (vs := [.slice A0 (l0).length cap0]) (by kernel_rfl) ent74 (c_impl_sorted hy10 F0) ?_
        rintro _ w11 ⟨A13, cap14, fp15, rfl, F16, G17, hc12⟩
        replace F0 := F0.chg hc12 Dj.nil
        replace hB := hB.inS hc12 inNil
        replace G17 := low_le hZ G17
        replace hZ := Nat.le_trans hZ hc12.size
        refine ⟨.slice A13 (y9).length cap14, rfl, ?_⟩
        refine wS_pure 6 [(4, .bool ((((y9).length : Int)) == (((l0).length : Int)))), (26, .bool ((((y9).length : Int)) == (((l0).length : Int)))), (25, .bool ((((y9).length : Int)) == (((l0).length : Int)))), (24, .int .i64 (((l0).length : Int))), (23, .slice A0 (l0).length cap0), (22, .int .i64 (((y9).length : Int)))] (by kernel_rfl) ?_
        refine wS_end (by rfl) ?_
        refine eX_then ?_
        refine cW_prune [(4, .bool ((((y9).length : Int)) == (((l0).length : Int))))] (by kernel_rfl) (by kernel_rfl) (fun a20 => ?_)
        refine cW_ret ?_
        have hq : (some ((((y9).length : Int)) == (((l0).length : Int))) : Option ((Bool))) = some _ := hm
        replace hq := someE hq
        subst hq
        refine eX_ret (vs := [.bool ((((y9).length : Int)) == (((l0).length : Int)))]) [.tmp 4] (by rfl) ⟨by (show lkE _ _ _ = _); kernel_rfl, trivial⟩ ?_
        exact ⟨rfl, hB⟩
      · have hm := condF hb8 hm
        rewrite [hb8]
        refine wS_pure 8 [(4, .bool (false)), (26, .bool (false)), (25, undef), (24, undef), (23, undef), (22, undef), (21, undef), (20, undef)] (by kernel_rfl) ?_
        refine wS_end (by rfl) ?_
        refine eX_then ?_
        refine cW_prune [(4, .bool (false))] (by kernel_rfl) (by kernel_rfl) (fun a21 => ?_)
        refine cW_ret ?_
        have hq : (some false : Option ((Bool))) = some _ := hm
        replace hq := someE hq
        subst hq
        refine eX_ret (vs := [.bool (false)]) [.tmp 4] (by rfl) ⟨by (show lkE _ _ _ = _); kernel_rfl, trivial⟩ ?_
        exact ⟨rfl, hB⟩
    · have hm := condF hb3 hm
      rewrite [hb3]
      refine wS_pure 13 [(4, .bool (false)), (26, .bool (false)), (25, undef), (24, undef), (23, undef), (22, undef), (21, undef), (20, undef), (19, .bool (false)), (18, .bool (false)), (17, undef), (16, undef), (15, undef)] (by kernel_rfl) ?_
      refine wS_end (by rfl) ?_
      refine eX_then ?_
      refine cW_prune [(4, .bool (false))] (by kernel_rfl) (by kernel_rfl) (fun a22 => ?_)
      refine cW_ret ?_
      have hq : (some false : Option ((Bool))) = some _ := hm
      replace hq := someE hq
      subst hq
      refine eX_ret (vs := [.bool (false)]) [.tmp 4] (by rfl) ⟨by (show lkE _ _ _ = _); kernel_rfl, trivial⟩ ?_
      exact ⟨rfl, hB⟩
  · have hm := condF hb2 hm
    rewrite [hb2]
    refine wS_pure 19 [(4, .bool (false)), (26, .bool (false)), (25, undef), (24, undef), (23, undef), (22, undef), (21, undef), (20, undef), (19, .bool (false)), (18, .bool (false)), (17, undef), (16, undef), (15, undef), (14, .bool (false)), (13, .bool (false)), (12, undef), (11, undef), (10, undef), (9, undef)] (by kernel_rfl) ?_
    refine wS_end (by rfl) ?_
    refine eX_then ?_
    refine cW_prune [(4, .bool (false))] (by kernel_rfl) (by kernel_rfl) (fun a23 => ?_)
    refine cW_ret ?_
    have hq : (some false : Option ((Bool))) = some _ := hm
    replace hq := someE hq
    subst hq
    refine eX_ret (vs := [.bool (false)]) [.tmp 4] (by rfl) ⟨by (show lkE _ _ _ = _); kernel_rfl, trivial⟩ ?_
    exact ⟨rfl, hB⟩

set_option maxRecDepth 100000 in
/-- spec.l00Min -/
theorem c_spec_l00Min {w0 : World} {p0 : Int} {p1 : Int} {r : (Int)} (hm : m_spec_l00Min p0 p1 = some r)  :
    Calls Try.prog 124 #[.int .i64 (p0), .int .i64 (p1)] w0 fun e w' => e = .returned (.int .i64 (r)) ∧ Chg [] w0 w' := by
  have hB : Chg [] w0 w0 := Chg.refl _ _
  have hZ := Nat.le_refl w0.heap.size
  unfold m_spec_l00Min at hm
  refine enterE (N := 10) Try.func124 (by rfl) Try.ntmps124 (by simp) [(0, .int .i64 (p0)), (1, .int .i64 (p1))] (by rfl) (by kernel_rfl) (fun a => ?_)
  refine cW_seq ?_
  refine cW_region ?_
  refine wS_pure 1 [(4, .int .i64 (0))] (by kernel_rfl) ?_
  refine wS_end (by rfl) ?_
  refine eX_then ?_
  refine cW_seq ?_
  refine cW_seq ?_
  refine cW_region ?_
  refine wS_pure 3 [(7, .bool (decide (p0 < p1))), (6, .int .i64 (p1)), (5, .int .i64 (p0))] (by kernel_rfl) ?_
  refine wS_end (by rfl) ?_
  refine eX_then ?_
  refine cW_cond (t := decide (p0 < p1)) (by kernel_rfl) (fun hb1 => ?_) (fun hb1 => ?_)
  · have hm := condT hb1 hm
    refine cW_seq ?_
    refine cW_region ?_
    refine wS_pure 2 [(4, .int .i64 (p0)), (8, .int .i64 (p0))] (by kernel_rfl) ?_
    refine wS_end (by rfl) ?_
    refine eX_then ?_
    refine cW_ret ?_
    refine eX_then_ret ?_
    have hq : (some p0 : Option ((Int))) = some _ := hm
    replace hq := someE hq
    subst hq
    refine eX_ret (vs := [.int .i64 (p0)]) [.tmp 4] (by rfl) ⟨by (show lkE _ _ _ = _); kernel_rfl, trivial⟩ ?_
    exact ⟨rfl, hB⟩
  · have hm := condF hb1 hm
    refine cW_skip ?_
    refine eX_then ?_
    refine cW_seq ?_
    refine cW_region ?_
    refine wS_pure 2 [(4, .int .i64 (p1)), (9, .int .i64 (p1))] (by kernel_rfl) ?_
    refine wS_end (by rfl) ?_
    refine eX_then ?_
    refine cW_ret ?_
    have hq : (some p1 : Option ((Int))) = some _ := hm
    replace hq := someE hq
    subst hq
    refine eX_ret (vs := [.int .i64 (p1)]) [.tmp 4] (by rfl) ⟨by (show lkE _ _ _ = _); kernel_rfl, trivial⟩ ?_
    exact ⟨rfl, hB⟩

set_option maxRecDepth 100000 in
/-- spec.l05Few -/
theorem c_spec_l05Few {w0 : World} {l0 : List (Int × Int)} {A0 : Option Addr} {cap0 : Nat} {fp0 : List Nat} {r : (Bool)} (hm : m_spec_l05Few l0 = some r) (F0 : Sl 2 encII w0 fp0 A0 l0) (K0 : (l0).length ≤ cap0) :
    Calls Try.prog 86 #[.slice A0 (l0).length cap0] w0 fun e w' => e = .returned (.bool (r)) ∧ Chg [] w0 w' := by
  have L0 := F0.low
  have hB : Chg [] w0 w0 := Chg.refl _ _
  have hZ := Nat.le_refl w0.heap.size
  unfold m_spec_l05Few at hm
  refine enterE (N := 10) Try.func86 (by rfl) Try.ntmps86 (by simp) [(0, .slice A0 (l0).length cap0)] (by rfl) (by kernel_rfl) (fun a => ?_)
  refine cW_seq ?_
  refine cW_region ?_
  refine wS_pure 1 [(2, .bool (false))] (by kernel_rfl) ?_
  refine wS_end (by rfl) ?_
  refine eX_then ?_
  refine cW_seq ?_
  refine cW_region ?_
  refine wS_pure 1 [(3, .slice A0 (l0).length cap0)] (by kernel_rfl) ?_
  obtain ⟨y2, hy3, hm⟩ := bindE hm
  refine wS_calls (d := 4) (f := 75) (vs := [.slice A0 (l0).length cap0]) (by kernel_rfl) ent75 (c_spec_l05Is hy3 F0 K0) ?_
  rintro _ w4 ⟨rfl, hc5⟩
  replace F0 := F0.chg hc5 Dj.nil
  replace hB := hB.inS hc5 inNil
  replace hZ := Nat.le_trans hZ hc5.size
  refine ⟨.bool (y2), rfl, ?_⟩
  refine wS_pure 1 [(5, .bool (y2))] (by kernel_rfl) ?_
  refine wS_bool y2 (fun hb6 => ?_) (fun hb6 => ?_)
  · have hm := condT hb6 hm
    rewrite [hb6]
    refine wS_pure 5 [(2, .bool (decide ((((l0).length : Int)) ≤ 7))), (9, .bool (decide ((((l0).length : Int)) ≤ 7))), (8, .bool (decide ((((l0).length : Int)) ≤ 7))), (7, .int .i64 (((l0).length : Int))), (6, .slice A0 (l0).length cap0)] (by kernel_rfl) ?_
    refine wS_end (by rfl) ?_
    refine eX_then ?_
    refine cW_ret ?_
    have hq : (some (decide ((((l0).length : Int)) ≤ 7)) : Option ((Bool))) = some _ := hm
    replace hq := someE hq
    subst hq
    refine eX_ret (vs := [.bool (decide ((((l0).length : Int)) ≤ 7))]) [.tmp 2] (by rfl) ⟨by (show lkE _ _ _ = _); kernel_rfl, trivial⟩ ?_
    exact ⟨rfl, hB⟩
  · have hm := condF hb6 hm
    rewrite [hb6]
    refine wS_pure 5 [(2, .bool (false)), (9, .bool (false)), (8, undef), (7, undef), (6, undef)] (by kernel_rfl) ?_
    refine wS_end (by rfl) ?_
    refine eX_then ?_
    refine cW_ret ?_
    have hq : (some false : Option ((Bool))) = some _ := hm
    replace hq := someE hq
    subst hq
    refine eX_ret (vs := [.bool (false)]) [.tmp 2] (by rfl) ⟨by (show lkE _ _ _ = _); kernel_rfl, trivial⟩ ?_
    exact ⟨rfl, hB⟩

set_option maxRecDepth 100000 in
/-- spec.l01Before -/
theorem c_spec_l01Before {w0 : World} {p0_0 : Int} {p0_1 : Int} {p1_0 : Int} {p1_1 : Int} {r : (Bool)} (hm : m_spec_l01Before p0_0 p0_1 p1_0 p1_1 = some r)  :
    Calls Try.prog 148 #[.agg #[.int .i64 (p0_0), .int .i64 (p0_1)], .agg #[.int .i64 (p1_0), .int .i64 (p1_1)]] w0 fun e w' => e = .returned (.bool (r)) ∧ Chg [] w0 w' := by
  have hB : Chg [] w0 w0 := Chg.refl _ _
  have hZ := Nat.le_refl w0.heap.size
  unfold m_spec_l01Before at hm
  refine enterE (N := 24) Try.func148 (by rfl) Try.ntmps148 (by simp) [(0, .agg #[.int .i64 (p0_0), .int .i64 (p0_1)]), (1, .agg #[.int .i64 (p1_0), .int .i64 (p1_1)])] (by rfl) (by kernel_rfl) (fun a => ?_)
  refine cW_seq ?_
  refine cW_region ?_
  refine wS_box (d := 2) (T := 34) (x := .agg #[.int .i64 (p0_0), .int .i64 (p0_1)]) (by kernel_rfl) ?_
  intro b1 w2 G3 F4 hc5
  replace F4 : Cl w2 b1 34 [.int .i64 (p0_0), .int .i64 (p0_1)] := F4
  replace hB := hB.inS hc5 inNil
  replace G3 := Nat.le_trans hZ G3
  replace hZ := Nat.le_trans hZ hc5.size
  refine wS_box (d := 3) (T := 34) (x := .agg #[.int .i64 (p1_0), .int .i64 (p1_1)]) (by kernel_rfl) ?_
  intro b7 w8 G9 F10 hc11
  replace F10 : Cl w8 b7 34 [.int .i64 (p1_0), .int .i64 (p1_1)] := F10
  have D13 : Dj [b1] [b7] := Dj.of (lt1 F4.lt) (low1 G9)
  replace F4 := F4.chg hc11 notNil
  replace hB := hB.inS hc11 inNil
  replace G9 := Nat.le_trans hZ G9
  replace hZ := Nat.le_trans hZ hc11.size
  refine wS_pure 1 [(4, .bool (false))] (by kernel_rfl) ?_
  refine wS_end (by rfl) ?_
  refine eX_then ?_
  refine cW_seq ?_
  refine cW_region ?_
  refine wS_pure 1 [(5, .pointer (some ⟨b1, 0, none⟩))] (by kernel_rfl) ?_
  refine wS_load1 (d := 6) (T := 2) (ad := ⟨b1, 0, none⟩) (v := .int .i64 (p0_0)) (by kernel_rfl) vt2 ((F4).cell 0) ?_
  refine wS_pure 1 [(7, .pointer (some ⟨b7, 0, none⟩))] (by kernel_rfl) ?_
  refine wS_load1 (d := 8) (T := 2) (ad := ⟨b7, 0, none⟩) (v := .int .i64 (p1_0)) (by kernel_rfl) vt2 ((F10).cell 0) ?_
  refine wS_pure 2 [(10, .bool (decide (p0_0 < p1_0))), (9, .bool (decide (p0_0 < p1_0)))] (by kernel_rfl) ?_
  refine wS_bool (decide (p0_0 < p1_0)) (fun hb14 => ?_) (fun hb14 => ?_)
  · have hm := condT hb14 hm
    rewrite [hb14]
    refine wS_pure 14 [(4, .bool (true)), (23, .bool (true)), (22, undef), (21, undef), (20, undef), (19, undef), (18, undef), (17, undef), (16, undef), (15, undef), (14, undef), (13, undef), (12, undef), (11, undef)] (by kernel_rfl) ?_
    refine wS_end (by rfl) ?_
    refine eX_then ?_
    refine cW_prune [(4, .bool (true))] (by kernel_rfl) (by kernel_rfl) (fun a15 => ?_)
    refine cW_ret ?_
    have hq : (some true : Option ((Bool))) = some _ := hm
    replace hq := someE hq
    subst hq
    refine eX_ret (vs := [.bool (true)]) [.tmp 4] (by rfl) ⟨by (show lkE _ _ _ = _); kernel_rfl, trivial⟩ ?_
    exact ⟨rfl, hB⟩
  · have hm := condF hb14 hm
    rewrite [hb14]
    refine wS_pure 1 [(11, .pointer (some ⟨b1, 0, none⟩))] (by kernel_rfl) ?_
    refine wS_load1 (d := 12) (T := 2) (ad := ⟨b1, 0, none⟩) (v := .int .i64 (p0_0)) (by kernel_rfl) vt2 ((F4).cell 0) ?_
    refine wS_pure 1 [(13, .pointer (some ⟨b7, 0, none⟩))] (by kernel_rfl) ?_
    refine wS_load1 (d := 14) (T := 2) (ad := ⟨b7, 0, none⟩) (v := .int .i64 (p1_0)) (by kernel_rfl) vt2 ((F10).cell 0) ?_
    refine wS_pure 2 [(16, .bool (p0_0 == p1_0)), (15, .bool (p0_0 == p1_0))] (by kernel_rfl) ?_
    refine wS_bool (p0_0 == p1_0) (fun hb16 => ?_) (fun hb16 => ?_)
    · have hm := condT hb16 hm
      rewrite [hb16]
      refine wS_pure 1 [(17, .pointer (some ⟨b1, 1, none⟩))] (by kernel_rfl) ?_
      refine wS_load1 (d := 18) (T := 2) (ad := ⟨b1, 1, none⟩) (v := .int .i64 (p0_1)) (by kernel_rfl) vt2 ((F4).cell 1) ?_
      refine wS_pure 1 [(19, .pointer (some ⟨b7, 1, none⟩))] (by kernel_rfl) ?_
      refine wS_load1 (d := 20) (T := 2) (ad := ⟨b7, 1, none⟩) (v := .int .i64 (p1_1)) (by kernel_rfl) vt2 ((F10).cell 1) ?_
      refine wS_pure 4 [(4, .bool (decide (p0_1 < p1_1))), (23, .bool (decide (p0_1 < p1_1))), (22, .bool (decide (p0_1 < p1_1))), (21, .bool (decide (p0_1 < p1_1)))] (by kernel_rfl) ?_
      refine wS_end (by rfl) ?_
      refine eX_then ?_
      refine cW_prune [(4, .bool (decide (p0_1 < p1_1)))] (by kernel_rfl) (by kernel_rfl) (fun a17 => ?_)
      refine cW_ret ?_
      have hq : (some (decide (p0_1 < p1_1)) : Option ((Bool))) = some _ := hm
      replace hq := someE hq
      subst hq
      refine eX_ret (vs := [.bool (decide (p0_1 < p1_1))]) [.tmp 4] (by rfl) ⟨by (show lkE _ _ _ = _); kernel_rfl, trivial⟩ ?_
      exact ⟨rfl, hB⟩
    · have hm := condF hb16 hm
      rewrite [hb16]
      refine wS_pure 8 [(4, .bool (false)), (23, .bool (false)), (22, .bool (false)), (21, undef), (20, undef), (19, undef), (18, undef), (17, undef)] (by kernel_rfl) ?_
      refine wS_end (by rfl) ?_
      refine eX_then ?_
      refine cW_prune [(4, .bool (false))] (by kernel_rfl) (by kernel_rfl) (fun a18 => ?_)
      refine cW_ret ?_
      have hq : (some false : Option ((Bool))) = some _ := hm
      replace hq := someE hq
      subst hq
      refine eX_ret (vs := [.bool (false)]) [.tmp 4] (by rfl) ⟨by (show lkE _ _ _ = _); kernel_rfl, trivial⟩ ?_
      exact ⟨rfl, hB⟩

set_option maxRecDepth 100000 in
/-- spec.l01Sorted -/
theorem c_spec_l01Sorted {w0 : World} {l0 : List (Int × Int)} {A0 : Option Addr} {cap0 : Nat} {fp0 : List Nat} {r : (List (Int × Int))} (hm : m_spec_l01Sorted l0 = some r) (F0 : Sl 2 encII w0 fp0 A0 l0) :
    Calls Try.prog 127 #[.slice A0 (l0).length cap0] w0 fun e w' => ∃ A100 cap100 fp100, e = .returned (.slice A100 (r).length cap100) ∧ Ow 2 encII 34 w' fp100 A100 cap100 r ∧ (∀ x ∈ fp100, w0.heap.size ≤ x) ∧ Chg [] w0 w' := by
  have L0 := F0.low
  have hB : Chg [] w0 w0 := Chg.refl _ _
  have hZ := Nat.le_refl w0.heap.size
  unfold m_spec_l01Sorted at hm
  refine enterE (N := 55) Try.func127 (by rfl) Try.ntmps127 (by simp) [(0, .slice A0 (l0).length cap0)] (by rfl) (by kernel_rfl) (fun a => ?_)
  refine cW_seq ?_
  refine cW_region ?_
  refine wS_pure 1 [(2, .slice none 0 0)] (by kernel_rfl) ?_
  refine wS_end (by rfl) ?_
  refine eX_then ?_
  refine cW_seq ?_
  refine cW_region ?_
  refine wS_bs0 (α := Int × Int) (enc := encII) (d := 7) (t := 25) (T := 34) (by kernel_rfl) el25 ?_
  intro b2 w3 G4 F5 hc6
  replace F0 := F0.chg hc6 Dj.nil
  replace hB := hB.inS hc6 inNil
  replace G4 := Nat.le_trans hZ G4
  replace G4 := low1 G4
  replace hZ := Nat.le_trans hZ hc6.size
  refine wS_pure 1 [(3, .slice (some ⟨b2, 0, none⟩) (([] : List (Int × Int))).length 0)] (by kernel_rfl) ?_
  refine wS_end (by rfl) ?_
  refine eX_then ?_
  refine cW_seq ?_
  refine cW_seq ?_
  refine cW_region ?_
  refine wS_pure 1 [(4, .int .i64 (0))] (by kernel_rfl) ?_
  refine wS_end (by rfl) ?_
  refine eX_then ?_
  obtain ⟨r513, hr514, hm⟩ := bindE hm
  have hm515 := hm
  refine cW_cut (fun a' w' => ∃ l494 : List (Int × Int), ∃ A495 : Option Addr, ∃ cap496 : Nat, ∃ fp497 : List Nat, l494 = r513 ∧ Fr 55 [(3, .slice A495 (l494).length cap496)] a' ∧ Ow 2 encII 34 w' fp497 A495 cap496 l494 ∧ (∀ x ∈ fp497, w0.heap.size ≤ x) ∧ Chg [] w0 w' ∧ w0.heap.size ≤ w'.heap.size) ?_ ?_
  · refine cW_block ?_
    refine cW_loop _ (fun (s516 : (List (Int × Int)) × Int) a' w' => ∃ l503 : List (Int × Int), ∃ A504 : Option Addr, ∃ cap505 : Nat, ∃ fp506 : List Nat, ∃ x508 : Int, (l503, x508) = s516 ∧ Fr 55 [(0, .slice A0 (l0).length cap0), (3, .slice A504 (l503).length cap505), (4, .int .i64 (x508))] a' ∧ Sl 2 encII w' fp0 A0 l0 ∧ Ow 2 encII 34 w' fp506 A504 cap505 l503 ∧ (∀ x ∈ fp506, w0.heap.size ≤ x) ∧ Chg [] w0 w' ∧ w0.heap.size ≤ w'.heap.size) hr514 (fun hst => ⟨([] : List (Int × Int)), (some ⟨b2, 0, none⟩), 0, [b2], 0, rfl, Fr.of hst (by kernel_rfl), F0, F5, G4, hB, hZ⟩) ?_
    rintro _ c517 a' w502 ⟨l503, A504, cap505, fp506, x508, rfl, hF509, F510, F511, G512, hB, hZ⟩ hx518
    refine Fr.goOn hF509 (by kernel_rfl) ?_
    have hm := hx518
    unfold m_spec_l01Sorted_s3 at hm
    refine cW_seq ?_
    refine cW_seq ?_
    refine cW_region ?_
    refine wS_pure 4 [(11, .bool (decide (x508 < (((l0).length : Int))))), (10, .int .i64 (((l0).length : Int))), (9, .slice A0 (l0).length cap0), (8, .int .i64 (x508))] (by kernel_rfl) ?_
    refine wS_end (by rfl) ?_
    refine eX_then ?_
    refine cW_cond (t := decide (x508 < (((l0).length : Int)))) (by kernel_rfl) (fun hb519 => ?_) (fun hb519 => ?_)
    · have hm := condT hb519 hm
      refine cW_skip ?_
      refine eX_then ?_
      refine cW_seq ?_
      refine cW_block ?_
      refine cW_seq ?_
      refine cW_seq ?_
      refine cW_region ?_
      refine wS_pure 3 [(16, .int .i64 (x508)), (15, .slice A0 (l0).length cap0), (14, .slice A504 (l503).length cap505)] (by kernel_rfl) ?_
      obtain ⟨x520, hx521, hm⟩ := bindE hm
      refine wS_idx (d := 17) (T := 25) (A := A0) (n := (l0).length) (cap := cap0) (kd := .i64) (m := x508) (by kernel_rfl) sl25 (F510.is hx521) ?_
      refine wS_loadA (d := 18) (T := 34) (ad := (elA A0 2 (x508) 0)) (vs := [.int .i64 (x520.1), .int .i64 (x520.2)]) (by kernel_rfl) vt34 (fun i u hu => Sl.cells_at F510 hx521 0 hu (by rfl)) ?_
      obtain ⟨y522, hy523, hm⟩ := bindE hm
      refine wS_calls (d := 19) (f := 95) (vs := [.slice A504 (l503).length cap505, .agg #[.int .i64 (x520.1), .int .i64 (x520.2)]]) (by kernel_rfl) ent95 (c_spec_l01Index hy523 (F511.sl encII_ok)) ?_
      rintro _ w524 ⟨rfl, hc525⟩
      replace F510 := F510.chg hc525 Dj.nil
      replace F511 := F511.chg hc525 Dj.nil
      replace hB := hB.inS hc525 inNil
      replace hZ := Nat.le_trans hZ hc525.size
      refine ⟨.int .i64 (y522), rfl, ?_⟩
      refine wS_pure 1 [(20, .bool (decide (y522 ≥ 0)))] (by kernel_rfl) ?_
      refine wS_end (by rfl) ?_
      refine eX_then ?_
      refine cW_cond (t := decide (y522 ≥ 0)) (by kernel_rfl) (fun hb526 => ?_) (fun hb526 => ?_)
      · have hm := condT hb526 hm
        refine cW_exit ?_
        refine eX_then_exit ?_
        refine eX_block_hit ?_
        refine eX_then ?_
        refine cW_region ?_
        refine wS_pure 3 [(4, .int .i64 (wr (x508 + 1))), (13, .int .i64 (wr (x508 + 1))), (12, .int .i64 (x508))] (by kernel_rfl) ?_
        refine wS_end (by rfl) ?_
        have hq : (some (Ctl.next ((l503, wr (x508 + 1)))) : Option (Ctl ((List (Int × Int)) × Int) ((List (Int × Int))))) = some _ := hm
        replace hq := someE hq
        subst hq
        exact eX_next hx518 (fun hst => ⟨l503, A504, cap505, fp506, wr (x508 + 1), rfl, Fr.of hst (by kernel_rfl), F510, F511, G512, hB, hZ⟩)
      · have hm := condF hb526 hm
        refine cW_skip ?_
        refine eX_then ?_
        refine cW_seq ?_
        refine cW_region ?_
        refine wS_pure 1 [(5, .int .i64 (0))] (by kernel_rfl) ?_
        refine wS_end (by rfl) ?_
        refine eX_then ?_
        refine cW_seq ?_
        obtain ⟨r598, hr599, hm⟩ := bindE hm
        have hm600 := hm
        refine cW_cut (fun a' w' => ∃ x589 : Int, x589 = r598 ∧ Fr 55 [(0, .slice A0 (l0).length cap0), (3, .slice A504 (l503).length cap505), (4, .int .i64 (x508)), (5, .int .i64 (x589))] a' ∧ Sl 2 encII w' fp0 A0 l0 ∧ Ow 2 encII 34 w' fp506 A504 cap505 l503 ∧ Chg [] w0 w' ∧ w0.heap.size ≤ w'.heap.size) ?_ ?_
        · refine cW_block ?_
          refine cW_loop _ (fun (s601 : Int) a' w' => ∃ x594 : Int, x594 = s601 ∧ Fr 55 [(0, .slice A0 (l0).length cap0), (3, .slice A504 (l503).length cap505), (4, .int .i64 (x508)), (5, .int .i64 (x594))] a' ∧ Sl 2 encII w' fp0 A0 l0 ∧ Ow 2 encII 34 w' fp506 A504 cap505 l503 ∧ Chg [] w0 w' ∧ w0.heap.size ≤ w'.heap.size) hr599 (fun hst => ⟨0, rfl, Fr.of hst (by kernel_rfl), F510, F511, hB, hZ⟩) ?_
          rintro _ c602 a' w593 ⟨x594, rfl, hF595, F596, F597, hB, hZ⟩ hx603
          refine Fr.goOn hF595 (by kernel_rfl) ?_
          have hm := hx603
          unfold m_spec_l01Sorted_s4 at hm
          refine cW_seq ?_
          refine cW_seq ?_
          refine cW_drawnTail [] 13 (by kernel_rfl) (by kernel_rfl) (fun w617 hc618 => ?_)
          replace F596 := F596.chg hc618 Dj.nil
          replace F597 := F597.chg hc618 Dj.nil
          replace hB := hB.inS hc618 inNil
          replace hZ := Nat.le_trans hZ hc618.size
          have hS := Chg.refl [] w617
          have Z619 := F596
          have Z620 := F597
          refine wH_take [0, 1, 2, 3, 4] [4, 3, 2, 1, 0] [(25, .bool (decide (x594 < (((l503).length : Int))))), (24, .bool (decide (x594 < (((l503).length : Int))))), (23, .int .i64 (((l503).length : Int))), (22, .slice A504 (l503).length cap505), (21, .int .i64 (x594))] (by kernel_rfl) (qT (qT (qT (qL (qB (qT (qT (qB (qT (qL (qB (qT (qT qZ))))))))))))) (by kernel_rfl) ?_
          refine wH_bool (decide (x594 < (((l503).length : Int)))) (fun hb621 => ?_) (fun hb621 => ?_)
          · have hm := condT hb621 hm
            rewrite [hb621]
            refine wH_take [5, 6] [6, 5, 4, 3, 2, 1, 0] [(27, .int .i64 (x594)), (26, .slice A504 (l503).length cap505)] (by kernel_rfl) (qT (qT (qT (qL (qB (qT (qT (qB (qT (qL (qB (qT (qT qZ))))))))))))) (by kernel_rfl) ?_
            obtain ⟨x622, hx623, hm⟩ := bindE hm
            refine wH_idx (i := 7) (d := 28) (T := 25) (A := A504) (n := (l503).length) (cap := cap505) (kd := .i64) (m := x594) (by kernel_rfl) (qT (qT (qT (qL (qB (qT (qT (qB (qT (qL (qB (qT (qT qZ))))))))))))) (by kernel_rfl) (by kernel_rfl) sl25 ((F597.sl encII_ok).is hx623) ?_
            refine wH_loadA (i := 8) (d := 29) (T := 34) (ad := (elA A504 2 (x594) 0)) (vs := [.int .i64 (x622.1), .int .i64 (x622.2)]) (by kernel_rfl) (qT (qT (qT (qL (qB (qT (qT (qB (qT (qL (qB (qT (qT qZ))))))))))))) (by kernel_rfl) (by kernel_rfl) vt34 (fun W hW i u hu => Sl.cells_at ((Z620.chg hW Dj.nil).sl encII_ok) hx623 0 hu (by rfl)) ?_
            refine wH_take [9, 10] [10, 9, 8, 7, 6, 5, 4, 3, 2, 1, 0] [(31, .int .i64 (x508)), (30, .slice A0 (l0).length cap0)] (by kernel_rfl) (qT (qT (qT (qL (qB (qT (qT (qB (qT (qL (qB (qT (qT qZ))))))))))))) (by kernel_rfl) ?_
            obtain ⟨x624, hx625, hm⟩ := bindE hm
            refine wH_idx (i := 11) (d := 32) (T := 25) (A := A0) (n := (l0).length) (cap := cap0) (kd := .i64) (m := x508) (by kernel_rfl) (qT (qT (qT (qL (qB (qT (qT (qB (qT (qL (qB (qT (qT qZ))))))))))))) (by kernel_rfl) (by kernel_rfl) sl25 (F596.is hx625) ?_
            refine wH_loadA (i := 12) (d := 33) (T := 34) (ad := (elA A0 2 (x508) 0)) (vs := [.int .i64 (x624.1), .int .i64 (x624.2)]) (by kernel_rfl) (qT (qT (qT (qL (qB (qT (qT (qB (qT (qL (qB (qT (qT qZ))))))))))))) (by kernel_rfl) (by kernel_rfl) vt34 (fun W hW i u hu => Sl.cells_at (Z619.chg hW Dj.nil) hx625 0 hu (by rfl)) ?_
            refine wH_done (by kernel_rfl) ?_
            refine eX_tail ?_
            obtain ⟨y626, hy627, hm⟩ := bindE hm
            refine wS_calls (d := 34) (f := 148) (vs := [.agg #[.int .i64 (x622.1), .int .i64 (x622.2)], .agg #[.int .i64 (x624.1), .int .i64 (x624.2)]]) (by kernel_rfl) ent148 (c_spec_l01Before hy627) ?_
            rintro _ w628 ⟨rfl, hc629⟩
            replace F596 := F596.chg hc629 Dj.nil
            replace F597 := F597.chg hc629 Dj.nil
            replace hB := hB.inS hc629 inNil
            replace hZ := Nat.le_trans hZ hc629.size
            refine ⟨.bool (y626), rfl, ?_⟩
            refine wS_pure 1 [(35, .bool (y626))] (by kernel_rfl) ?_
            refine wS_end (by rfl) ?_
            refine eX_then ?_
            refine cW_cond (t := y626) (by kernel_rfl) (fun hb630 => ?_) (fun hb630 => ?_)
            · have hm := condT hb630 hm
              refine cW_skip ?_
              refine eX_then ?_
              refine cW_block ?_
              refine cW_region ?_
              refine wS_pure 3 [(5, .int .i64 (wr (x594 + 1))), (37, .int .i64 (wr (x594 + 1))), (36, .int .i64 (x594))] (by kernel_rfl) ?_
              refine wS_end (by rfl) ?_
              refine eX_block ?_
              have hq : (some (Ctl.next (wr (x594 + 1))) : Option (Ctl (Int) (Int))) = some _ := hm
              replace hq := someE hq
              subst hq
              exact eX_next hx603 (fun hst => ⟨wr (x594 + 1), rfl, Fr.of hst (by kernel_rfl), F596, F597, hB, hZ⟩)
            · have hm := condF hb630 hm
              refine cW_exit ?_
              refine eX_then_exit ?_
              have hq : (some (Ctl.out x594) : Option (Ctl (Int) (Int))) = some _ := hm
              replace hq := someE hq
              subst hq
              refine eX_outX hx603 (fun hr631 => ?_)
              replace hr631 := hr631.symm
              subst hr631
              refine eX_block_hit ?_
              exact eX_J (fun hst => ⟨x594, rfl, Fr.of hst (by kernel_rfl), F596, F597, hB, hZ⟩)
          · have hm := condF hb621 hm
            rewrite [hb621]
            refine wH_take [5, 6, 7, 8, 9, 10, 11, 12] [12, 11, 10, 9, 8, 7, 6, 5, 4, 3, 2, 1, 0] [(33, undef), (32, undef), (31, undef), (30, undef), (29, undef), (28, undef), (27, undef), (26, undef)] (by kernel_rfl) (qT (qT (qT (qL (qB (qT (qT (qB (qT (qL (qB (qT (qT qZ))))))))))))) (by kernel_rfl) ?_
            refine wH_done (by kernel_rfl) ?_
            refine eX_tail ?_
            refine wS_pure 2 [(35, .bool (false)), (34, undef)] (by kernel_rfl) ?_
            refine wS_end (by rfl) ?_
            refine eX_then ?_
            refine cW_cond_f (by kernel_rfl) ?_
            refine cW_exit ?_
            refine eX_then_exit ?_
            have hq : (some (Ctl.out x594) : Option (Ctl (Int) (Int))) = some _ := hm
            replace hq := someE hq
            subst hq
            refine eX_outX hx603 (fun hr632 => ?_)
            replace hr632 := hr632.symm
            subst hr632
            refine eX_block_hit ?_
            exact eX_J (fun hst => ⟨x594, rfl, Fr.of hst (by kernel_rfl), F596, F597, hB, hZ⟩)
        · rintro a' w588 ⟨x589, hJ, hF590, F591, F592, hB, hZ⟩
          subst hJ
          refine Fr.goX hF590 (by kernel_rfl) ?_
          refine eX_then ?_
          refine cW_seq ?_
          refine cW_region ?_
          refine wS_bs0 (α := Int × Int) (enc := encII) (d := 38) (t := 25) (T := 34) (by kernel_rfl) el25 ?_
          intro b633 w634 G635 F636 hc637
          have D639 : Dj fp506 [b633] := Dj.of F592.low (low1 G635)
          replace F591 := F591.chg hc637 Dj.nil
          replace F592 := F592.chg hc637 Dj.nil
          replace hB := hB.inS hc637 inNil
          replace G635 := Nat.le_trans hZ G635
          replace G635 := low1 G635
          replace hZ := Nat.le_trans hZ hc637.size
          refine wS_pure 2 [(40, .int .i64 (x589)), (39, .slice A504 (l503).length cap505)] (by kernel_rfl) ?_
          obtain ⟨y640, hy641, hm⟩ := bindE hm
          refine wS_cutA (enc := encII) (l := l503) (d := 41) (T := 25) (A := A504) (cap := cap505) (vlo := some (.int .i64 (x589))) (vhi := none) (lo := x589) (hi := ((l503).length : Int)) (n := 0) (by kernel_rfl) sl25 (Or.inl rfl) (Or.inr ⟨rfl, rfl⟩) (F592.sl encII_ok) F592.cap_le hy641 ?_
          intro A642 cap643 hA646 F644 hcap645
          obtain rfl := slci_slc hy641
          have hlv648 := Eq.refl (l503).length
          have hcz649 := F592.cap_le
          obtain ⟨_, hk650, hm⟩ := bindE hm
          replace hk650 := apE hk650
          refine wS_appendAny (enc := encII) (l := (([] : List (Int × Int)) : List (Int × Int))) (l2 := (slc l503 x589 (((l503).length : Int)) : List (Int × Int))) (d := 42) (t := 25) (T := 34) (A := (some ⟨b633, 0, none⟩)) (A2 := A642) (cap := 0) (cap2 := cap643) (by kernel_rfl) el25 encII_ok F636 F644 hk650 ?_
          intro w651 fp652 A653 cap654 F655 hc656 hp657
          have G659 := low_ap G635 hZ hp657
          have D660 : Dj fp506 fp652 := Dj.ap D639 F592.low hp657
          have D661 : Dj fp506 fp652 := Dj.ap D639 F644.low hp657
          replace F591 := F591.chg hc656 (Dj.of L0 G635)
          replace F592 := F592.chg hc656 D639
          replace F644 := F644.chg hc656 D639
          replace hB := hB.inS hc656 (inLow G635)
          replace hZ := Nat.le_trans hZ hc656.size
          refine wS_pure 1 [(6, .slice A653 ((([] : List (Int × Int))) ++ (slc l503 x589 (((l503).length : Int)))).length cap654)] (by kernel_rfl) ?_
          refine wS_end (by rfl) ?_
          refine eX_then ?_
          refine cW_drawnTail fp506 10 (by kernel_rfl) (by kernel_rfl) (fun w708 hc709 => ?_)
          replace F591 := F591.chg hc709 Dj.nil
          replace F592 := F592.chg hc709 Dj.nil
          replace F644 := F644.chg hc709 Dj.nil
          replace F655 := F655.chg hc709 Dj.nil
          replace hB := hB.inS hc709 inNil
          replace hZ := Nat.le_trans hZ hc709.size
          have hS := Chg.refl fp506 w708
          have Z710 := F591
          have Z711 := F592
          have Z712 := F644
          have Z713 := F655
          refine wH_take [0, 1] [1, 0] [(44, .int .i64 (x589)), (43, .slice A504 (l503).length cap505)] (by kernel_rfl) (qT (qB (qT (qL (qB (qT (qT qZ))))))) (by kernel_rfl) ?_
          obtain ⟨y714, hy715, hm⟩ := bindE hm
          refine wH_prefix (k := 2) (enc := encII) (l := l503) (i := 2) (d := 45) (T := 25) (A := A504) (cap := cap505) (hi := x589) (by kernel_rfl) (qT (qB (qT (qL (qB (qT (qT qZ))))))) (by kernel_rfl) (by kernel_rfl) sl25 encII_ok F592.cap_le hy715 ?_
          intro hpe hpf718
          subst hpe
          have F716 := hpf718 _ _ _ F592
          have Fz717 := hpf718 _ _ _ Z711
          refine wH_take [3, 4] [4, 3, 2, 1, 0] [(47, .int .i64 (x508)), (46, .slice A0 (l0).length cap0)] (by kernel_rfl) (qT (qB (qT (qL (qB (qT (qT qZ))))))) (by kernel_rfl) ?_
          obtain ⟨x719, hx720, hm⟩ := bindE hm
          refine wH_idx (i := 5) (d := 48) (T := 25) (A := A0) (n := (l0).length) (cap := cap0) (kd := .i64) (m := x508) (by kernel_rfl) (qT (qB (qT (qL (qB (qT (qT qZ))))))) (by kernel_rfl) (by kernel_rfl) sl25 (F591.is hx720) ?_
          refine wH_loadA (i := 6) (d := 49) (T := 34) (ad := (elA A0 2 (x508) 0)) (vs := [.int .i64 (x719.1), .int .i64 (x719.2)]) (by kernel_rfl) (qT (qB (qT (qL (qB (qT (qT qZ))))))) (by kernel_rfl) (by kernel_rfl) vt34 (fun W hW i u hu => Sl.cells_at (Z710.chg hW (Dj.of L0 G512)) hx720 0 hu (by rfl)) ?_
          refine wH_take [9] [9, 6, 5, 4, 3, 2, 1, 0] [(52, .slice A653 ((([] : List (Int × Int))) ++ (slc l503 x589 (((l503).length : Int)))).length cap654)] (by kernel_rfl) (qT (qB (qT (qL (qB (qT (qT qZ))))))) (by kernel_rfl) ?_
          refine wH_all [7] (by rfl) (by kernel_rfl) (by simp) ⟨⟨by kernel_rfl, ?_⟩, trivial⟩
          refine wS_bs (enc := encII) ([(x719.1, x719.2)] : List (Int × Int)) [.int .i64 (x719.1), .int .i64 (x719.2)] (d := 50) (t := 25) (T := 34) (n := 1) (ps := [(0, .agg #[.int .i64 (x719.1), .int .i64 (x719.2)])]) (by kernel_rfl) el25 encII_ok (by rfl) (by omega) (by omega) (by kernel_rfl) (by rfl) ?_
          intro b721 w722 G723 F724 hc725
          have D727 : Dj fp506 [b721] := Dj.of F716.low (low1 G723)
          have D728 : Dj fp652 [b721] := Dj.of F655.low (low1 G723)
          replace F591 := F591.chg hc725 Dj.nil
          replace F716 := F716.chg hc725 Dj.nil
          replace F655 := F655.chg hc725 Dj.nil
          replace hB := hB.inS hc725 inNil
          have hSz := hS
          replace hS := hS.inS hc725 inNil
          have Gz729 := low1 (Nat.le_trans hSz.size G723)
          replace G723 := Nat.le_trans hZ G723
          replace G723 := low1 G723
          replace hZ := Nat.le_trans hZ hc725.size
          refine wS_end (by kernel_rfl) ?_
          refine eX_KH hS ?_
          refine wH_all [8] (by rfl) (by kernel_rfl) (by simp) ⟨⟨by kernel_rfl, ?_⟩, trivial⟩
          obtain ⟨_, hk730, hm⟩ := bindE hm
          replace hk730 := apE hk730
          refine wS_append (enc := encII) (l := (l503.take (Int.toNat x589) : List (Int × Int))) (l2 := (([(x719.1, x719.2)] : List (Int × Int)) : List (Int × Int))) (d := 51) (t := 25) (T := 34) (A := A504) (A2 := (some ⟨b721, 0, none⟩)) (cap := cap505) (cap2 := 1) (by kernel_rfl) el25 encII_ok F716 (F724.sl encII_ok) (by rfl) hk730 ?_
          intro w731 fp732 A733 cap734 F735 hc736 hp737
          have G739 := low_ap G512 hZ hp737
          have D740 : Dj fp652 fp732 := Dj.ap (D660).symm F655.low hp737
          have D741 : Dj [b721] fp732 := Dj.ap (D727).symm F724.low hp737
          replace F591 := F591.chg hc736 (Dj.of L0 G512)
          replace F655 := F655.chg hc736 (D660).symm
          replace F724 := F724.chg hc736 (D727).symm
          replace hB := hB.inS hc736 (inLow G512)
          have hSz := hS
          replace hS := hS.trans hc736
          have Sn742 := sin_ap (Sg := fp506) (inMem (fun x hx => hx)) hSz.size hp737
          replace hZ := Nat.le_trans hZ hc736.size
          refine wS_end (by kernel_rfl) ?_
          refine eX_KH hS ?_
          refine wH_done (by kernel_rfl) ?_
          refine eX_tail ?_
          obtain ⟨_, hk743, hm⟩ := bindE hm
          replace hk743 := apE hk743
          refine wS_appendAny (enc := encII) (l := ((l503.take (Int.toNat x589)) ++ (([(x719.1, x719.2)] : List (Int × Int))) : List (Int × Int))) (l2 := ((([] : List (Int × Int))) ++ (slc l503 x589 (((l503).length : Int))) : List (Int × Int))) (d := 53) (t := 25) (T := 34) (A := A733) (A2 := A653) (cap := cap734) (cap2 := cap654) (by kernel_rfl) el25 encII_ok F735 (F655.sl encII_ok) hk743 ?_
          intro w744 fp745 A746 cap747 F748 hc749 hp750
          have G752 := low_ap G739 hZ hp750
          have D753 : Dj fp652 fp745 := Dj.ap D740 F655.low hp750
          have D754 : Dj [b721] fp745 := Dj.ap D741 F724.low hp750
          replace F591 := F591.chg hc749 (Dj.of L0 G739)
          replace F655 := F655.chg hc749 D740
          replace F724 := F724.chg hc749 D741
          replace hB := hB.inS hc749 (inLow G739)
          replace hZ := Nat.le_trans hZ hc749.size
          refine wS_pure 1 [(3, .slice A746 (((l503.take (Int.toNat x589)) ++ (([(x719.1, x719.2)] : List (Int × Int)))) ++ ((([] : List (Int × Int))) ++ (slc l503 x589 (((l503).length : Int))))).length cap747)] (by kernel_rfl) ?_
          refine wS_end (by rfl) ?_
          refine eX_block ?_
          refine eX_then ?_
          refine cW_region ?_
          refine wS_pure 3 [(4, .int .i64 (wr (x508 + 1))), (13, .int .i64 (wr (x508 + 1))), (12, .int .i64 (x508))] (by kernel_rfl) ?_
          refine wS_end (by rfl) ?_
          have hq : (some (Ctl.next ((((l503.take (Int.toNat x589)) ++ (([(x719.1, x719.2)] : List (Int × Int)))) ++ ((([] : List (Int × Int))) ++ (slc l503 x589 (((l503).length : Int)))), wr (x508 + 1)))) : Option (Ctl ((List (Int × Int)) × Int) ((List (Int × Int))))) = some _ := hm
          replace hq := someE hq
          subst hq
          exact eX_next hx518 (fun hst => ⟨((l503.take (Int.toNat x589)) ++ (([(x719.1, x719.2)] : List (Int × Int)))) ++ ((([] : List (Int × Int))) ++ (slc l503 x589 (((l503).length : Int)))), A746, cap747, fp745, wr (x508 + 1), rfl, Fr.of hst (by kernel_rfl), F591, F748, G752, hB, hZ⟩)
    · have hm := condF hb519 hm
      refine cW_exit ?_
      refine eX_then_exit ?_
      have hq : (some (Ctl.out l503) : Option (Ctl ((List (Int × Int)) × Int) ((List (Int × Int))))) = some _ := hm
      replace hq := someE hq
      subst hq
      refine eX_outX hx518 (fun hr755 => ?_)
      replace hr755 := hr755.symm
      subst hr755
      refine eX_block_hit ?_
      exact eX_J (fun hst => ⟨l503, A504, cap505, fp506, rfl, Fr.of hst (by kernel_rfl), F511, G512, hB, hZ⟩)
  · rintro a' w493 ⟨l494, A495, cap496, fp497, hJ, hF499, F500, G501, hB, hZ⟩
    subst hJ
    refine Fr.goX hF499 (by kernel_rfl) ?_
    refine eX_then ?_
    refine cW_seq ?_
    refine cW_region ?_
    refine wS_pure 2 [(2, .slice A495 (l494).length cap496), (54, .slice A495 (l494).length cap496)] (by kernel_rfl) ?_
    refine wS_end (by rfl) ?_
    refine eX_then ?_
    refine cW_ret ?_
    have hq : (some l494 : Option ((List (Int × Int)))) = some _ := hm
    replace hq := someE hq
    subst hq
    refine eX_ret (vs := [.slice A495 (l494).length cap496]) [.tmp 2] (by rfl) ⟨by (show lkE _ _ _ = _); kernel_rfl, trivial⟩ ?_
    exact ⟨A495, cap496, fp497, rfl, F500, G501, hB⟩

set_option maxRecDepth 100000 in
/-- spec.l05Hanan -/
theorem c_spec_l05Hanan {w0 : World} {l0 : List (Int × Int)} {A0 : Option Addr} {cap0 : Nat} {fp0 : List Nat} {r : (List (Int × Int))} (hm : m_spec_l05Hanan l0 = some r) (F0 : Sl 2 encII w0 fp0 A0 l0) :
    Calls Try.prog 87 #[.slice A0 (l0).length cap0] w0 fun e w' => ∃ A100 cap100 fp100, e = .returned (.slice A100 (r).length cap100) ∧ Ow 2 encII 34 w' fp100 A100 cap100 r ∧ (∀ x ∈ fp100, w0.heap.size ≤ x) ∧ Chg [] w0 w' := by
  have L0 := F0.low
  have hB : Chg [] w0 w0 := Chg.refl _ _
  have hZ := Nat.le_refl w0.heap.size
  unfold m_spec_l05Hanan at hm
  refine enterE (N := 35) Try.func87 (by rfl) Try.ntmps87 (by simp) [(0, .slice A0 (l0).length cap0)] (by rfl) (by kernel_rfl) (fun a => ?_)
  refine cW_seq ?_
  refine cW_region ?_
  refine wS_pure 1 [(2, .slice none 0 0)] (by kernel_rfl) ?_
  refine wS_end (by rfl) ?_
  refine eX_then ?_
  refine cW_seq ?_
  refine cW_region ?_
  refine wS_bs0 (α := Int × Int) (enc := encII) (d := 6) (t := 25) (T := 34) (by kernel_rfl) el25 ?_
  intro b2 w3 G4 F5 hc6
  replace F0 := F0.chg hc6 Dj.nil
  replace hB := hB.inS hc6 inNil
  replace G4 := Nat.le_trans hZ G4
  replace G4 := low1 G4
  replace hZ := Nat.le_trans hZ hc6.size
  refine wS_pure 1 [(3, .slice (some ⟨b2, 0, none⟩) (([] : List (Int × Int))).length 0)] (by kernel_rfl) ?_
  refine wS_end (by rfl) ?_
  refine eX_then ?_
  refine cW_seq ?_
  refine cW_seq ?_
  refine cW_region ?_
  refine wS_pure 1 [(4, .int .i64 (0))] (by kernel_rfl) ?_
  refine wS_end (by rfl) ?_
  refine eX_then ?_
  obtain ⟨r455, hr456, hm⟩ := bindE hm
  have hm457 := hm
  refine cW_cut (fun a' w' => ∃ l436 : List (Int × Int), ∃ A437 : Option Addr, ∃ cap438 : Nat, ∃ fp439 : List Nat, l436 = r455 ∧ Fr 35 [(3, .slice A437 (l436).length cap438)] a' ∧ Ow 2 encII 34 w' fp439 A437 cap438 l436 ∧ (∀ x ∈ fp439, w0.heap.size ≤ x) ∧ Chg [] w0 w' ∧ w0.heap.size ≤ w'.heap.size) ?_ ?_
  · refine cW_block ?_
    refine cW_loop _ (fun (s458 : (List (Int × Int)) × Int) a' w' => ∃ l445 : List (Int × Int), ∃ A446 : Option Addr, ∃ cap447 : Nat, ∃ fp448 : List Nat, ∃ x450 : Int, (l445, x450) = s458 ∧ Fr 35 [(0, .slice A0 (l0).length cap0), (3, .slice A446 (l445).length cap447), (4, .int .i64 (x450))] a' ∧ Sl 2 encII w' fp0 A0 l0 ∧ Ow 2 encII 34 w' fp448 A446 cap447 l445 ∧ (∀ x ∈ fp448, w0.heap.size ≤ x) ∧ Chg [] w0 w' ∧ w0.heap.size ≤ w'.heap.size) hr456 (fun hst => ⟨([] : List (Int × Int)), (some ⟨b2, 0, none⟩), 0, [b2], 0, rfl, Fr.of hst (by kernel_rfl), F0, F5, G4, hB, hZ⟩) ?_
    rintro _ c459 a' w444 ⟨l445, A446, cap447, fp448, x450, rfl, hF451, F452, F453, G454, hB, hZ⟩ hx460
    refine Fr.goOn hF451 (by kernel_rfl) ?_
    have hm := hx460
    unfold m_spec_l05Hanan_s3 at hm
    refine cW_seq ?_
    refine cW_seq ?_
    refine cW_region ?_
    refine wS_pure 4 [(10, .bool (decide (x450 < (((l0).length : Int))))), (9, .int .i64 (((l0).length : Int))), (8, .slice A0 (l0).length cap0), (7, .int .i64 (x450))] (by kernel_rfl) ?_
    refine wS_end (by rfl) ?_
    refine eX_then ?_
    refine cW_cond (t := decide (x450 < (((l0).length : Int)))) (by kernel_rfl) (fun hb461 => ?_) (fun hb461 => ?_)
    · have hm := condT hb461 hm
      refine cW_skip ?_
      refine eX_then ?_
      refine cW_seq ?_
      refine cW_block ?_
      refine cW_seq ?_
      refine cW_region ?_
      refine wS_pure 1 [(5, .int .i64 (0))] (by kernel_rfl) ?_
      refine wS_end (by rfl) ?_
      refine eX_then ?_
      obtain ⟨r606, hr607, hm⟩ := bindE hm
      have hm608 := hm
      refine cW_cut (fun a' w' => ∃ l586 : List (Int × Int), ∃ A587 : Option Addr, ∃ cap588 : Nat, ∃ fp589 : List Nat, l586 = r606 ∧ Fr 35 [(0, .slice A0 (l0).length cap0), (3, .slice A587 (l586).length cap588), (4, .int .i64 (x450))] a' ∧ Sl 2 encII w' fp0 A0 l0 ∧ Ow 2 encII 34 w' fp589 A587 cap588 l586 ∧ (∀ x ∈ fp589, w0.heap.size ≤ x) ∧ Chg [] w0 w' ∧ w0.heap.size ≤ w'.heap.size) ?_ ?_
      · refine cW_block ?_
        refine cW_loop _ (fun (s609 : (List (Int × Int)) × Int) a' w' => ∃ l596 : List (Int × Int), ∃ A597 : Option Addr, ∃ cap598 : Nat, ∃ fp599 : List Nat, ∃ x601 : Int, (l596, x601) = s609 ∧ Fr 35 [(0, .slice A0 (l0).length cap0), (3, .slice A597 (l596).length cap598), (4, .int .i64 (x450)), (5, .int .i64 (x601))] a' ∧ Sl 2 encII w' fp0 A0 l0 ∧ Ow 2 encII 34 w' fp599 A597 cap598 l596 ∧ (∀ x ∈ fp599, w0.heap.size ≤ x) ∧ Chg [] w0 w' ∧ w0.heap.size ≤ w'.heap.size) hr607 (fun hst => ⟨l445, A446, cap447, fp448, 0, rfl, Fr.of hst (by kernel_rfl), F452, F453, G454, hB, hZ⟩) ?_
        rintro _ c610 a' w595 ⟨l596, A597, cap598, fp599, x601, rfl, hF602, F603, F604, G605, hB, hZ⟩ hx611
        refine Fr.goOn hF602 (by kernel_rfl) ?_
        have hm := hx611
        unfold m_spec_l05Hanan_s4 at hm
        refine cW_seq ?_
        refine cW_seq ?_
        refine cW_region ?_
        refine wS_pure 4 [(16, .bool (decide (x601 < (((l0).length : Int))))), (15, .int .i64 (((l0).length : Int))), (14, .slice A0 (l0).length cap0), (13, .int .i64 (x601))] (by kernel_rfl) ?_
        refine wS_end (by rfl) ?_
        refine eX_then ?_
        refine cW_cond (t := decide (x601 < (((l0).length : Int)))) (by kernel_rfl) (fun hb612 => ?_) (fun hb612 => ?_)
        · have hm := condT hb612 hm
          refine cW_skip ?_
          refine eX_then ?_
          refine cW_seq ?_
          refine cW_block ?_
          refine cW_drawnTail [] 13 (by kernel_rfl) (by kernel_rfl) (fun w640 hc641 => ?_)
          replace F603 := F603.chg hc641 Dj.nil
          replace F604 := F604.chg hc641 Dj.nil
          replace hB := hB.inS hc641 inNil
          replace hZ := Nat.le_trans hZ hc641.size
          have hS := Chg.refl [] w640
          have Z642 := F603
          have Z643 := F604
          refine wH_take [0, 1, 2] [2, 1, 0] [(21, .int .i64 (x450)), (20, .slice A0 (l0).length cap0), (19, .slice A597 (l596).length cap598)] (by kernel_rfl) (qT (qB (qT (qL (qB (qT (qB (qT (qL (qB (qT (qT qZ)))))))))))) (by kernel_rfl) ?_
          obtain ⟨x644, hx645, hm⟩ := bindE hm
          refine wH_idx (i := 3) (d := 22) (T := 25) (A := A0) (n := (l0).length) (cap := cap0) (kd := .i64) (m := x450) (by kernel_rfl) (qT (qB (qT (qL (qB (qT (qB (qT (qL (qB (qT (qT qZ)))))))))))) (by kernel_rfl) (by kernel_rfl) sl25 (F603.is hx645) ?_
          refine wH_take [4] [4, 3, 2, 1, 0] [(23, .pointer (some (elA A0 2 (x450) 0)))] (by kernel_rfl) (qT (qB (qT (qL (qB (qT (qB (qT (qL (qB (qT (qT qZ)))))))))))) (by kernel_rfl) ?_
          refine wH_load1 (i := 5) (d := 24) (T := 2) (ad := (elA A0 2 (x450) 0)) (v := .int .i64 (x644.1)) (by kernel_rfl) (qT (qB (qT (qL (qB (qT (qB (qT (qL (qB (qT (qT qZ)))))))))))) (by kernel_rfl) (by kernel_rfl) vt2 (fun W hW => Sl.cell (Z642.chg hW Dj.nil) hx645 0 (by rfl)) ?_
          refine wH_take [6, 7] [7, 6, 5, 4, 3, 2, 1, 0] [(26, .int .i64 (x601)), (25, .slice A0 (l0).length cap0)] (by kernel_rfl) (qT (qB (qT (qL (qB (qT (qB (qT (qL (qB (qT (qT qZ)))))))))))) (by kernel_rfl) ?_
          obtain ⟨x646, hx647, hm⟩ := bindE hm
          refine wH_idx (i := 8) (d := 27) (T := 25) (A := A0) (n := (l0).length) (cap := cap0) (kd := .i64) (m := x601) (by kernel_rfl) (qT (qB (qT (qL (qB (qT (qB (qT (qL (qB (qT (qT qZ)))))))))))) (by kernel_rfl) (by kernel_rfl) sl25 (F603.is hx647) ?_
          refine wH_take [9] [9, 8, 7, 6, 5, 4, 3, 2, 1, 0] [(28, .pointer (some (elA A0 2 (x601) 1)))] (by kernel_rfl) (qT (qB (qT (qL (qB (qT (qB (qT (qL (qB (qT (qT qZ)))))))))))) (by kernel_rfl) ?_
          refine wH_load1 (i := 10) (d := 29) (T := 2) (ad := (elA A0 2 (x601) 1)) (v := .int .i64 (x646.2)) (by kernel_rfl) (qT (qB (qT (qL (qB (qT (qB (qT (qL (qB (qT (qT qZ)))))))))))) (by kernel_rfl) (by kernel_rfl) vt2 (fun W hW => Sl.cell (Z642.chg hW Dj.nil) hx647 1 (by rfl)) ?_
          refine wH_take [11] [11, 10, 9, 8, 7, 6, 5, 4, 3, 2, 1, 0] [(30, .agg #[.int .i64 (x644.1), .int .i64 (x646.2)])] (by kernel_rfl) (qT (qB (qT (qL (qB (qT (qB (qT (qL (qB (qT (qT qZ)))))))))))) (by kernel_rfl) ?_
          refine wH_all [12] (by rfl) (by kernel_rfl) (by simp) ⟨⟨by kernel_rfl, ?_⟩, trivial⟩
          refine wS_bs (enc := encII) ([(x644.1, x646.2)] : List (Int × Int)) [.int .i64 (x644.1), .int .i64 (x646.2)] (d := 31) (t := 25) (T := 34) (n := 1) (ps := [(0, .agg #[.int .i64 (x644.1), .int .i64 (x646.2)])]) (by kernel_rfl) el25 encII_ok (by rfl) (by omega) (by omega) (by kernel_rfl) (by rfl) ?_
          intro b648 w649 G650 F651 hc652
          have D654 : Dj fp599 [b648] := Dj.of F604.low (low1 G650)
          replace F603 := F603.chg hc652 Dj.nil
          replace F604 := F604.chg hc652 Dj.nil
          replace hB := hB.inS hc652 inNil
          have hSz := hS
          replace hS := hS.inS hc652 inNil
          have Gz655 := low1 (Nat.le_trans hSz.size G650)
          replace G650 := Nat.le_trans hZ G650
          replace G650 := low1 G650
          replace hZ := Nat.le_trans hZ hc652.size
          refine wS_end (by kernel_rfl) ?_
          refine eX_KH hS ?_
          refine wH_done (by kernel_rfl) ?_
          refine eX_tail ?_
          obtain ⟨_, hk656, hm⟩ := bindE hm
          replace hk656 := apE hk656
          refine wS_append (enc := encII) (l := (l596 : List (Int × Int))) (l2 := (([(x644.1, x646.2)] : List (Int × Int)) : List (Int × Int))) (d := 32) (t := 25) (T := 34) (A := A597) (A2 := (some ⟨b648, 0, none⟩)) (cap := cap598) (cap2 := 1) (by kernel_rfl) el25 encII_ok F604 (F651.sl encII_ok) (by rfl) hk656 ?_
          intro w657 fp658 A659 cap660 F661 hc662 hp663
          have G665 := low_ap G605 hZ hp663
          have D666 : Dj [b648] fp658 := Dj.ap (D654).symm F651.low hp663
          replace F603 := F603.chg hc662 (Dj.of L0 G605)
          replace F651 := F651.chg hc662 (D654).symm
          replace hB := hB.inS hc662 (inLow G605)
          replace hZ := Nat.le_trans hZ hc662.size
          refine wS_pure 1 [(3, .slice A659 (l596 ++ (([(x644.1, x646.2)] : List (Int × Int)))).length cap660)] (by kernel_rfl) ?_
          refine wS_end (by rfl) ?_
          refine eX_block ?_
          refine eX_then ?_
          refine cW_region ?_
          refine wS_pure 3 [(5, .int .i64 (wr (x601 + 1))), (18, .int .i64 (wr (x601 + 1))), (17, .int .i64 (x601))] (by kernel_rfl) ?_
          refine wS_end (by rfl) ?_
          have hq : (some (Ctl.next ((l596 ++ (([(x644.1, x646.2)] : List (Int × Int))), wr (x601 + 1)))) : Option (Ctl ((List (Int × Int)) × Int) ((List (Int × Int))))) = some _ := hm
          replace hq := someE hq
          subst hq
          exact eX_next hx611 (fun hst => ⟨l596 ++ (([(x644.1, x646.2)] : List (Int × Int))), A659, cap660, fp658, wr (x601 + 1), rfl, Fr.of hst (by kernel_rfl), F603, F661, G665, hB, hZ⟩)
        · have hm := condF hb612 hm
          refine cW_exit ?_
          refine eX_then_exit ?_
          have hq : (some (Ctl.out l596) : Option (Ctl ((List (Int × Int)) × Int) ((List (Int × Int))))) = some _ := hm
          replace hq := someE hq
          subst hq
          refine eX_outX hx611 (fun hr667 => ?_)
          replace hr667 := hr667.symm
          subst hr667
          refine eX_block_hit ?_
          exact eX_J (fun hst => ⟨l596, A597, cap598, fp599, rfl, Fr.of hst (by kernel_rfl), F603, F604, G605, hB, hZ⟩)
      · rintro a' w585 ⟨l586, A587, cap588, fp589, hJ, hF591, F592, F593, G594, hB, hZ⟩
        subst hJ
        refine Fr.goX hF591 (by kernel_rfl) ?_
        refine eX_block ?_
        refine eX_then ?_
        refine cW_region ?_
        refine wS_pure 3 [(4, .int .i64 (wr (x450 + 1))), (12, .int .i64 (wr (x450 + 1))), (11, .int .i64 (x450))] (by kernel_rfl) ?_
        refine wS_end (by rfl) ?_
        have hq : (some (Ctl.next ((l586, wr (x450 + 1)))) : Option (Ctl ((List (Int × Int)) × Int) ((List (Int × Int))))) = some _ := hm
        replace hq := someE hq
        subst hq
        exact eX_next hx460 (fun hst => ⟨l586, A587, cap588, fp589, wr (x450 + 1), rfl, Fr.of hst (by kernel_rfl), F592, F593, G594, hB, hZ⟩)
    · have hm := condF hb461 hm
      refine cW_exit ?_
      refine eX_then_exit ?_
      have hq : (some (Ctl.out l445) : Option (Ctl ((List (Int × Int)) × Int) ((List (Int × Int))))) = some _ := hm
      replace hq := someE hq
      subst hq
      refine eX_outX hx460 (fun hr668 => ?_)
      replace hr668 := hr668.symm
      subst hr668
      refine eX_block_hit ?_
      exact eX_J (fun hst => ⟨l445, A446, cap447, fp448, rfl, Fr.of hst (by kernel_rfl), F453, G454, hB, hZ⟩)
  · rintro a' w435 ⟨l436, A437, cap438, fp439, hJ, hF441, F442, G443, hB, hZ⟩
    subst hJ
    refine Fr.goX hF441 (by kernel_rfl) ?_
    refine eX_then ?_
    refine cW_seq ?_
    refine cW_region ?_
    refine wS_pure 1 [(33, .slice A437 (l436).length cap438)] (by kernel_rfl) ?_
    obtain ⟨y669, hy670, hm⟩ := bindE hm
    refine wS_calls (d := 34) (f := 127) (vs := [.slice A437 (l436).length cap438]) (by kernel_rfl) ent127 (c_spec_l01Sorted hy670 (F442.sl encII_ok)) ?_
    rintro _ w671 ⟨A673, cap674, fp675, rfl, F676, G677, hc672⟩
    have D680 : Dj fp439 fp675 := Dj.of F442.low G677
    replace F442 := F442.chg hc672 Dj.nil
    replace hB := hB.inS hc672 inNil
    replace G677 := low_le hZ G677
    replace hZ := Nat.le_trans hZ hc672.size
    refine ⟨.slice A673 (y669).length cap674, rfl, ?_⟩
    refine wS_pure 1 [(2, .slice A673 (y669).length cap674)] (by kernel_rfl) ?_
    refine wS_end (by rfl) ?_
    refine eX_then ?_
    refine cW_ret ?_
    have hq : (some y669 : Option ((List (Int × Int)))) = some _ := hm
    replace hq := someE hq
    subst hq
    refine eX_ret (vs := [.slice A673 (y669).length cap674]) [.tmp 2] (by rfl) ⟨by (show lkE _ _ _ = _); kernel_rfl, trivial⟩ ?_
    exact ⟨A673, cap674, fp675, rfl, F676, G677, hB⟩

set_option maxRecDepth 100000 in
/-- impl.hanan -/
theorem c_impl_hanan {w0 : World} {l0 : List (Int × Int)} {A0 : Option Addr} {cap0 : Nat} {fp0 : List Nat} {r : (List (Int × Int))} (hm : m_impl_hanan l0 = some r) (F0 : Sl 2 encII w0 fp0 A0 l0) :
    Calls Try.prog 89 #[.slice A0 (l0).length cap0] w0 fun e w' => ∃ A100 cap100 fp100, e = .returned (.slice A100 (r).length cap100) ∧ Ow 2 encII 34 w' fp100 A100 cap100 r ∧ (∀ x ∈ fp100, w0.heap.size ≤ x) ∧ Chg [] w0 w' := by
  have L0 := F0.low
  have hB : Chg [] w0 w0 := Chg.refl _ _
  have hZ := Nat.le_refl w0.heap.size
  unfold m_impl_hanan at hm
  refine enterE (N := 33) Try.func89 (by rfl) Try.ntmps89 (by simp) [(0, .slice A0 (l0).length cap0)] (by rfl) (by kernel_rfl) (fun a => ?_)
  refine cW_seq ?_
  refine cW_region ?_
  refine wS_pure 1 [(2, .slice none 0 0)] (by kernel_rfl) ?_
  refine wS_end (by rfl) ?_
  refine eX_then ?_
  refine cW_seq ?_
  refine cW_region ?_
  refine wS_bs0 (α := Int × Int) (enc := encII) (d := 8) (t := 25) (T := 34) (by kernel_rfl) el25 ?_
  intro b2 w3 G4 F5 hc6
  replace F0 := F0.chg hc6 Dj.nil
  replace hB := hB.inS hc6 inNil
  replace G4 := Nat.le_trans hZ G4
  replace G4 := low1 G4
  replace hZ := Nat.le_trans hZ hc6.size
  refine wS_pure 1 [(3, .slice (some ⟨b2, 0, none⟩) (([] : List (Int × Int))).length 0)] (by kernel_rfl) ?_
  refine wS_end (by rfl) ?_
  refine eX_then ?_
  refine cW_seq ?_
  refine cW_seq ?_
  refine cW_region ?_
  refine wS_pure 3 [(11, .int .i64 (0)), (10, .int .i64 (((l0).length : Int))), (9, .slice A0 (l0).length cap0)] (by kernel_rfl) ?_
  refine wS_end (by rfl) ?_
  refine eX_then ?_
  obtain ⟨r375, hr376, hm⟩ := bindE hm
  have hm377 := hm
  refine cW_cut (fun a' w' => ∃ l356 : List (Int × Int), ∃ A357 : Option Addr, ∃ cap358 : Nat, ∃ fp359 : List Nat, l356 = r375 ∧ Fr 33 [(3, .slice A357 (l356).length cap358)] a' ∧ Ow 2 encII 34 w' fp359 A357 cap358 l356 ∧ (∀ x ∈ fp359, w0.heap.size ≤ x) ∧ Chg [] w0 w' ∧ w0.heap.size ≤ w'.heap.size) ?_ ?_
  · refine cW_block ?_
    refine cW_loop _ (fun (s378 : (List (Int × Int)) × Int) a' w' => ∃ l365 : List (Int × Int), ∃ A366 : Option Addr, ∃ cap367 : Nat, ∃ fp368 : List Nat, ∃ x370 : Int, (l365, x370) = s378 ∧ Fr 33 [(0, .slice A0 (l0).length cap0), (3, .slice A366 (l365).length cap367), (9, .slice A0 (l0).length cap0), (10, .int .i64 (((l0).length : Int))), (11, .int .i64 (x370))] a' ∧ Sl 2 encII w' fp0 A0 l0 ∧ Ow 2 encII 34 w' fp368 A366 cap367 l365 ∧ (∀ x ∈ fp368, w0.heap.size ≤ x) ∧ Chg [] w0 w' ∧ w0.heap.size ≤ w'.heap.size) hr376 (fun hst => ⟨([] : List (Int × Int)), (some ⟨b2, 0, none⟩), 0, [b2], 0, rfl, Fr.of hst (by kernel_rfl), F0, F5, G4, hB, hZ⟩) ?_
    rintro _ c379 a' w364 ⟨l365, A366, cap367, fp368, x370, rfl, hF371, F372, F373, G374, hB, hZ⟩ hx380
    refine Fr.goOn hF371 (by kernel_rfl) ?_
    have hm := hx380
    unfold m_impl_hanan_s3 at hm
    refine cW_seq ?_
    refine cW_region ?_
    refine wS_pure 1 [(12, .bool (decide (x370 < (((l0).length : Int)))))] (by kernel_rfl) ?_
    refine wS_end (by rfl) ?_
    refine eX_then ?_
    refine cW_seq ?_
    refine cW_cond (t := decide (x370 < (((l0).length : Int)))) (by kernel_rfl) (fun hb381 => ?_) (fun hb381 => ?_)
    · have hm := condT hb381 hm
      refine cW_skip ?_
      refine eX_then ?_
      refine cW_seq ?_
      refine cW_block ?_
      refine cW_seq ?_
      refine cW_region ?_
      obtain ⟨x382, hx383, hm⟩ := bindE hm
      refine wS_idx (d := 13) (T := 25) (A := A0) (n := (l0).length) (cap := cap0) (kd := .i64) (m := x370) (by kernel_rfl) sl25 (F372.is hx383) ?_
      refine wS_loadA (d := 14) (T := 34) (ad := (elA A0 2 (x370) 0)) (vs := [.int .i64 (x382.1), .int .i64 (x382.2)]) (by kernel_rfl) vt34 (fun i u hu => Sl.cells_at F372 hx383 0 hu (by rfl)) ?_
      refine wS_alloc (d := 5) (T := 34) (z := .agg #[.int .i64 (0), .int .i64 (0)]) (by kernel_rfl) (by kernel_rfl) ?_
      intro b384 w385 G386 F387 hc388
      replace F387 : Cl w385 b384 34 [.int .i64 (0), .int .i64 (0)] := F387
      have D390 : Dj fp368 [b384] := Dj.of F373.low (low1 G386)
      replace F372 := F372.chg hc388 Dj.nil
      replace F373 := F373.chg hc388 Dj.nil
      replace hB := hB.inS hc388 inNil
      replace G386 := Nat.le_trans hZ G386
      replace hZ := Nat.le_trans hZ hc388.size
      refine wS_store (T := 34) (g := b384) (o := 0) (ad := ⟨b384, 0, none⟩) (v := .agg #[.int .i64 (x382.1), .int .i64 (x382.2)]) (vs := [.int .i64 (x382.1), .int .i64 (x382.2)]) (by kernel_rfl) (by rfl) sz34 (by rfl) (by rfl) F387 (by simp only [List.length_cons, List.length_nil]; omega) ?_
      intro w391 F392 hc393
      replace F372 := F372.chg hc393 (Dj.of L0 (low1 G386))
      replace F373 := F373.chg hc393 D390
      replace hB := hB.inS hc393 (inLow (low1 G386))
      replace hZ := Nat.le_trans hZ hc393.size
      replace F392 : Cl w391 b384 34 [.int .i64 (x382.1), .int .i64 (x382.2)] := F392
      clear F387
      refine wS_end (by rfl) ?_
      refine eX_then ?_
      refine cW_seq ?_
      refine cW_region ?_
      refine wS_pure 3 [(17, .int .i64 (0)), (16, .int .i64 (((l0).length : Int))), (15, .slice A0 (l0).length cap0)] (by kernel_rfl) ?_
      refine wS_end (by rfl) ?_
      refine eX_then ?_
      obtain ⟨r505, hr506, hm⟩ := bindE hm
      have hm507 := hm
      refine cW_cut (fun a' w' => ∃ l483 : List (Int × Int), ∃ A484 : Option Addr, ∃ cap485 : Nat, ∃ fp486 : List Nat, l483 = r505 ∧ Fr 33 [(0, .slice A0 (l0).length cap0), (3, .slice A484 (l483).length cap485), (9, .slice A0 (l0).length cap0), (10, .int .i64 (((l0).length : Int))), (11, .int .i64 (x370))] a' ∧ Sl 2 encII w' fp0 A0 l0 ∧ Ow 2 encII 34 w' fp486 A484 cap485 l483 ∧ (∀ x ∈ fp486, w0.heap.size ≤ x) ∧ Chg [] w0 w' ∧ w0.heap.size ≤ w'.heap.size) ?_ ?_
      · refine cW_block ?_
        refine cW_loop _ (fun (s508 : (List (Int × Int)) × Int) a' w' => ∃ l493 : List (Int × Int), ∃ A494 : Option Addr, ∃ cap495 : Nat, ∃ fp496 : List Nat, ∃ x498 : Int, (l493, x498) = s508 ∧ Fr 33 [(0, .slice A0 (l0).length cap0), (3, .slice A494 (l493).length cap495), (5, .pointer (some ⟨b384, 0, none⟩)), (9, .slice A0 (l0).length cap0), (10, .int .i64 (((l0).length : Int))), (11, .int .i64 (x370)), (15, .slice A0 (l0).length cap0), (16, .int .i64 (((l0).length : Int))), (17, .int .i64 (x498))] a' ∧ Sl 2 encII w' fp0 A0 l0 ∧ Cl w' b384 34 [.int .i64 (x382.1), .int .i64 (x382.2)] ∧ Ow 2 encII 34 w' fp496 A494 cap495 l493 ∧ (∀ x ∈ fp496, w0.heap.size ≤ x) ∧ Dj [b384] fp496 ∧ Chg [] w0 w' ∧ w0.heap.size ≤ w'.heap.size) hr506 (fun hst => ⟨l365, A366, cap367, fp368, 0, rfl, Fr.of hst (by kernel_rfl), F372, F392, F373, G374, (D390).symm, hB, hZ⟩) ?_
        rintro _ c509 a' w492 ⟨l493, A494, cap495, fp496, x498, rfl, hF499, F500, F501, F502, G503, D504, hB, hZ⟩ hx510
        refine Fr.goOn hF499 (by kernel_rfl) ?_
        have hm := hx510
        unfold m_impl_hanan_s4 at hm
        refine cW_seq ?_
        refine cW_region ?_
        refine wS_pure 1 [(18, .bool (decide (x498 < (((l0).length : Int)))))] (by kernel_rfl) ?_
        refine wS_end (by rfl) ?_
        refine eX_then ?_
        refine cW_seq ?_
        refine cW_cond (t := decide (x498 < (((l0).length : Int)))) (by kernel_rfl) (fun hb511 => ?_) (fun hb511 => ?_)
        · have hm := condT hb511 hm
          refine cW_skip ?_
          refine eX_then ?_
          refine cW_seq ?_
          refine cW_block ?_
          refine cW_seq ?_
          refine cW_region ?_
          obtain ⟨x512, hx513, hm⟩ := bindE hm
          refine wS_idx (d := 19) (T := 25) (A := A0) (n := (l0).length) (cap := cap0) (kd := .i64) (m := x498) (by kernel_rfl) sl25 (F500.is hx513) ?_
          refine wS_loadA (d := 20) (T := 34) (ad := (elA A0 2 (x498) 0)) (vs := [.int .i64 (x512.1), .int .i64 (x512.2)]) (by kernel_rfl) vt34 (fun i u hu => Sl.cells_at F500 hx513 0 hu (by rfl)) ?_
          refine wS_alloc (d := 7) (T := 34) (z := .agg #[.int .i64 (0), .int .i64 (0)]) (by kernel_rfl) (by kernel_rfl) ?_
          intro b514 w515 G516 F517 hc518
          replace F517 : Cl w515 b514 34 [.int .i64 (0), .int .i64 (0)] := F517
          have D520 : Dj [b384] [b514] := Dj.of (lt1 F501.lt) (low1 G516)
          have D521 : Dj fp496 [b514] := Dj.of F502.low (low1 G516)
          replace F500 := F500.chg hc518 Dj.nil
          replace F501 := F501.chg hc518 notNil
          replace F502 := F502.chg hc518 Dj.nil
          replace hB := hB.inS hc518 inNil
          replace G516 := Nat.le_trans hZ G516
          replace hZ := Nat.le_trans hZ hc518.size
          refine wS_store (T := 34) (g := b514) (o := 0) (ad := ⟨b514, 0, none⟩) (v := .agg #[.int .i64 (x512.1), .int .i64 (x512.2)]) (vs := [.int .i64 (x512.1), .int .i64 (x512.2)]) (by kernel_rfl) (by rfl) sz34 (by rfl) (by rfl) F517 (by simp only [List.length_cons, List.length_nil]; omega) ?_
          intro w522 F523 hc524
          replace F500 := F500.chg hc524 (Dj.of L0 (low1 G516))
          replace F501 := F501.chg hc524 (dj1 D520)
          replace F502 := F502.chg hc524 D521
          replace hB := hB.inS hc524 (inLow (low1 G516))
          replace hZ := Nat.le_trans hZ hc524.size
          replace F523 : Cl w522 b514 34 [.int .i64 (x512.1), .int .i64 (x512.2)] := F523
          clear F517
          refine wS_end (by rfl) ?_
          refine eX_then ?_
          refine cW_region ?_
          refine wS_pure 2 [(22, .pointer (some ⟨b384, 0, none⟩)), (21, .slice A494 (l493).length cap495)] (by kernel_rfl) ?_
          refine wS_load1 (d := 23) (T := 2) (ad := ⟨b384, 0, none⟩) (v := .int .i64 (x382.1)) (by kernel_rfl) vt2 ((F501).cell 0) ?_
          refine wS_pure 1 [(24, .pointer (some ⟨b514, 1, none⟩))] (by kernel_rfl) ?_
          refine wS_load1 (d := 25) (T := 2) (ad := ⟨b514, 1, none⟩) (v := .int .i64 (x512.2)) (by kernel_rfl) vt2 ((F523).cell 1) ?_
          refine wS_pure 1 [(26, .agg #[.int .i64 (x382.1), .int .i64 (x512.2)])] (by kernel_rfl) ?_
          refine wS_bs (enc := encII) ([(x382.1, x512.2)] : List (Int × Int)) [.int .i64 (x382.1), .int .i64 (x512.2)] (d := 27) (t := 25) (T := 34) (n := 1) (ps := [(0, .agg #[.int .i64 (x382.1), .int .i64 (x512.2)])]) (by kernel_rfl) el25 encII_ok (by rfl) (by omega) (by omega) (by kernel_rfl) (by rfl) ?_
          intro b525 w526 G527 F528 hc529
          have D531 : Dj [b384] [b525] := Dj.of (lt1 F501.lt) (low1 G527)
          have D532 : Dj fp496 [b525] := Dj.of F502.low (low1 G527)
          have D533 : Dj [b514] [b525] := Dj.of (lt1 F523.lt) (low1 G527)
          replace F500 := F500.chg hc529 Dj.nil
          replace F501 := F501.chg hc529 notNil
          replace F502 := F502.chg hc529 Dj.nil
          replace F523 := F523.chg hc529 notNil
          replace hB := hB.inS hc529 inNil
          replace G527 := Nat.le_trans hZ G527
          replace G527 := low1 G527
          replace hZ := Nat.le_trans hZ hc529.size
          obtain ⟨_, hk534, hm⟩ := bindE hm
          replace hk534 := apE hk534
          refine wS_append (enc := encII) (l := (l493 : List (Int × Int))) (l2 := (([(x382.1, x512.2)] : List (Int × Int)) : List (Int × Int))) (d := 28) (t := 25) (T := 34) (A := A494) (A2 := (some ⟨b525, 0, none⟩)) (cap := cap495) (cap2 := 1) (by kernel_rfl) el25 encII_ok F502 (F528.sl encII_ok) (by rfl) hk534 ?_
          intro w535 fp536 A537 cap538 F539 hc540 hp541
          have G543 := low_ap G503 hZ hp541
          have D544 : Dj [b384] fp536 := Dj.ap D504 (lt1 F501.lt) hp541
          have D545 : Dj [b514] fp536 := Dj.ap (D521).symm (lt1 F523.lt) hp541
          have D546 : Dj [b525] fp536 := Dj.ap (D532).symm F528.low hp541
          replace F500 := F500.chg hc540 (Dj.of L0 G503)
          replace F501 := F501.chg hc540 (dj1 D504)
          replace F523 := F523.chg hc540 (dj1 (D521).symm)
          replace F528 := F528.chg hc540 (D532).symm
          replace hB := hB.inS hc540 (inLow G503)
          replace hZ := Nat.le_trans hZ hc540.size
          refine wS_pure 1 [(3, .slice A537 (l493 ++ (([(x382.1, x512.2)] : List (Int × Int)))).length cap538)] (by kernel_rfl) ?_
          refine wS_end (by rfl) ?_
          refine eX_block ?_
          refine eX_then ?_
          refine cW_region ?_
          refine wS_pure 2 [(17, .int .i64 (wr (x498 + 1))), (29, .int .i64 (wr (x498 + 1)))] (by kernel_rfl) ?_
          refine wS_end (by rfl) ?_
          have hq : (some (Ctl.next ((l493 ++ (([(x382.1, x512.2)] : List (Int × Int))), wr (x498 + 1)))) : Option (Ctl ((List (Int × Int)) × Int) ((List (Int × Int))))) = some _ := hm
          replace hq := someE hq
          subst hq
          exact eX_next hx510 (fun hst => ⟨l493 ++ (([(x382.1, x512.2)] : List (Int × Int))), A537, cap538, fp536, wr (x498 + 1), rfl, Fr.of hst (by kernel_rfl), F500, F501, F539, G543, D544, hB, hZ⟩)
        · have hm := condF hb511 hm
          refine cW_exit ?_
          refine eX_then_exit ?_
          have hq : (some (Ctl.out l493) : Option (Ctl ((List (Int × Int)) × Int) ((List (Int × Int))))) = some _ := hm
          replace hq := someE hq
          subst hq
          refine eX_outX hx510 (fun hr547 => ?_)
          replace hr547 := hr547.symm
          subst hr547
          refine eX_block_hit ?_
          exact eX_J (fun hst => ⟨l493, A494, cap495, fp496, rfl, Fr.of hst (by kernel_rfl), F500, F502, G503, hB, hZ⟩)
      · rintro a' w482 ⟨l483, A484, cap485, fp486, hJ, hF488, F489, F490, G491, hB, hZ⟩
        subst hJ
        refine Fr.goX hF488 (by kernel_rfl) ?_
        refine eX_block ?_
        refine eX_then ?_
        refine cW_region ?_
        refine wS_pure 2 [(11, .int .i64 (wr (x370 + 1))), (30, .int .i64 (wr (x370 + 1)))] (by kernel_rfl) ?_
        refine wS_end (by rfl) ?_
        have hq : (some (Ctl.next ((l483, wr (x370 + 1)))) : Option (Ctl ((List (Int × Int)) × Int) ((List (Int × Int))))) = some _ := hm
        replace hq := someE hq
        subst hq
        exact eX_next hx380 (fun hst => ⟨l483, A484, cap485, fp486, wr (x370 + 1), rfl, Fr.of hst (by kernel_rfl), F489, F490, G491, hB, hZ⟩)
    · have hm := condF hb381 hm
      refine cW_exit ?_
      refine eX_then_exit ?_
      have hq : (some (Ctl.out l365) : Option (Ctl ((List (Int × Int)) × Int) ((List (Int × Int))))) = some _ := hm
      replace hq := someE hq
      subst hq
      refine eX_outX hx380 (fun hr548 => ?_)
      replace hr548 := hr548.symm
      subst hr548
      refine eX_block_hit ?_
      exact eX_J (fun hst => ⟨l365, A366, cap367, fp368, rfl, Fr.of hst (by kernel_rfl), F373, G374, hB, hZ⟩)
  · rintro a' w355 ⟨l356, A357, cap358, fp359, hJ, hF361, F362, G363, hB, hZ⟩
    subst hJ
    refine Fr.goX hF361 (by kernel_rfl) ?_
    refine eX_then ?_
    refine cW_seq ?_
    refine cW_region ?_
    refine wS_pure 1 [(31, .slice A357 (l356).length cap358)] (by kernel_rfl) ?_
    obtain ⟨y549, hy550, hm⟩ := bindE hm
    refine wS_calls (d := 32) (f := 74) (vs := [.slice A357 (l356).length cap358]) (by kernel_rfl) ent74 (c_impl_sorted hy550 (F362.sl encII_ok)) ?_
    rintro _ w551 ⟨A553, cap554, fp555, rfl, F556, G557, hc552⟩
    have D560 : Dj fp359 fp555 := Dj.of F362.low G557
    replace F362 := F362.chg hc552 Dj.nil
    replace hB := hB.inS hc552 inNil
    replace G557 := low_le hZ G557
    replace hZ := Nat.le_trans hZ hc552.size
    refine ⟨.slice A553 (y549).length cap554, rfl, ?_⟩
    refine wS_pure 1 [(2, .slice A553 (y549).length cap554)] (by kernel_rfl) ?_
    refine wS_end (by rfl) ?_
    refine eX_then ?_
    refine cW_ret ?_
    have hq : (some y549 : Option ((List (Int × Int)))) = some _ := hm
    replace hq := someE hq
    subst hq
    refine eX_ret (vs := [.slice A553 (y549).length cap554]) [.tmp 2] (by rfl) ⟨by (show lkE _ _ _ = _); kernel_rfl, trivial⟩ ?_
    exact ⟨A553, cap554, fp555, rfl, F556, G557, hB⟩

set_option maxRecDepth 100000 in
/-- impl.Point] -/
theorem c_slices_Index_impl_Point_impl_Point {w0 : World} {l0 : List (Int × Int)} {A0 : Option Addr} {cap0 : Nat} {fp0 : List Nat} {p1_0 : Int} {p1_1 : Int} {r : (Int)} (hm : m_slices_Index_impl_Point_impl_Point l0 p1_0 p1_1 = some r) (F0 : Sl 2 encII w0 fp0 A0 l0) :
    Calls Try.prog 135 #[.slice A0 (l0).length cap0, .agg #[.int .i64 (p1_0), .int .i64 (p1_1)]] w0 fun e w' => e = .returned (.int .i64 (r)) ∧ Chg [] w0 w' := by
  have L0 := F0.low
  have hB : Chg [] w0 w0 := Chg.refl _ _
  have hZ := Nat.le_refl w0.heap.size
  unfold m_slices_Index_impl_Point_impl_Point at hm
  refine enterE (N := 19) Try.func135 (by rfl) Try.ntmps135 (by simp) [(0, .slice A0 (l0).length cap0), (1, .agg #[.int .i64 (p1_0), .int .i64 (p1_1)])] (by rfl) (by kernel_rfl) (fun a => ?_)
  refine cW_seq ?_
  refine cW_region ?_
  refine wS_box (d := 3) (T := 34) (x := .agg #[.int .i64 (p1_0), .int .i64 (p1_1)]) (by kernel_rfl) ?_
  intro b2 w3 G4 F5 hc6
  replace F5 : Cl w3 b2 34 [.int .i64 (p1_0), .int .i64 (p1_1)] := F5
  replace F0 := F0.chg hc6 Dj.nil
  replace hB := hB.inS hc6 inNil
  replace G4 := Nat.le_trans hZ G4
  replace hZ := Nat.le_trans hZ hc6.size
  refine wS_pure 1 [(4, .int .i64 (0))] (by kernel_rfl) ?_
  refine wS_end (by rfl) ?_
  refine eX_then ?_
  refine cW_seq ?_
  refine cW_seq ?_
  refine cW_region ?_
  refine wS_pure 3 [(8, .int .i64 (0)), (7, .int .i64 (((l0).length : Int))), (6, .slice A0 (l0).length cap0)] (by kernel_rfl) ?_
  refine wS_end (by rfl) ?_
  refine eX_then ?_
  obtain ⟨r50, hr51, hm⟩ := bindE hm
  have hm52 := hm
  refine cW_cut (fun a' w' => Sum.inl (()) = r50 ∧ Fr 19 [] a' ∧ Chg [] w0 w' ∧ w0.heap.size ≤ w'.heap.size) ?_ ?_
  · refine cW_block ?_
    refine cW_loop _ (fun (s53 : Int) a' w' => ∃ x46 : Int, x46 = s53 ∧ Fr 19 [(0, .slice A0 (l0).length cap0), (3, .pointer (some ⟨b2, 0, none⟩)), (7, .int .i64 (((l0).length : Int))), (8, .int .i64 (x46))] a' ∧ Sl 2 encII w' fp0 A0 l0 ∧ Cl w' b2 34 [.int .i64 (p1_0), .int .i64 (p1_1)] ∧ Chg [] w0 w' ∧ w0.heap.size ≤ w'.heap.size) hr51 (fun hst => ⟨0, rfl, Fr.of hst (by kernel_rfl), F0, F5, hB, hZ⟩) ?_
    rintro _ c54 a' w45 ⟨x46, rfl, hF47, F48, F49, hB, hZ⟩ hx55
    refine Fr.goOn hF47 (by kernel_rfl) ?_
    have hm := hx55
    unfold m_slices_Index_impl_Point_impl_Point_s1 at hm
    refine cW_seq ?_
    refine cW_region ?_
    refine wS_pure 1 [(9, .bool (decide (x46 < (((l0).length : Int)))))] (by kernel_rfl) ?_
    refine wS_end (by rfl) ?_
    refine eX_then ?_
    refine cW_seq ?_
    refine cW_cond (t := decide (x46 < (((l0).length : Int)))) (by kernel_rfl) (fun hb56 => ?_) (fun hb56 => ?_)
    · have hm := condT hb56 hm
      refine cW_skip ?_
      refine eX_then ?_
      refine cW_seq ?_
      refine cW_block ?_
      refine cW_seq ?_
      refine cW_region ?_
      refine wS_pure 2 [(5, .int .i64 (x46)), (10, .int .i64 (x46))] (by kernel_rfl) ?_
      refine wS_end (by rfl) ?_
      refine eX_then ?_
      refine cW_seq ?_
      refine cW_drawnTail [] 5 (by kernel_rfl) (by kernel_rfl) (fun w63 hc64 => ?_)
      replace F48 := F48.chg hc64 Dj.nil
      replace F49 := F49.chg hc64 notNil
      replace hB := hB.inS hc64 inNil
      replace hZ := Nat.le_trans hZ hc64.size
      have hS := Chg.refl [] w63
      have Z65 := F48
      have Z66 := F49
      refine wH_loadA (i := 0) (d := 11) (T := 34) (ad := ⟨b2, 0, none⟩) (vs := [.int .i64 (p1_0), .int .i64 (p1_1)]) (by kernel_rfl) (qT (qT (qB (qT (qL (qB (qT (qT qZ)))))))) (by kernel_rfl) (by kernel_rfl) vt34 (fun W hW i u hu => box_cells (Z66.chg hW notNil) 0 hu (by rfl)) ?_
      refine wH_take [1, 2] [2, 1, 0] [(13, .int .i64 (x46)), (12, .slice A0 (l0).length cap0)] (by kernel_rfl) (qT (qT (qB (qT (qL (qB (qT (qT qZ)))))))) (by kernel_rfl) ?_
      obtain ⟨x67, hx68, hm⟩ := bindE hm
      refine wH_idx (i := 3) (d := 14) (T := 25) (A := A0) (n := (l0).length) (cap := cap0) (kd := .i64) (m := x46) (by kernel_rfl) (qT (qT (qB (qT (qL (qB (qT (qT qZ)))))))) (by kernel_rfl) (by kernel_rfl) sl25 (F48.is hx68) ?_
      refine wH_loadA (i := 4) (d := 15) (T := 34) (ad := (elA A0 2 (x46) 0)) (vs := [.int .i64 (x67.1), .int .i64 (x67.2)]) (by kernel_rfl) (qT (qT (qB (qT (qL (qB (qT (qT qZ)))))))) (by kernel_rfl) (by kernel_rfl) vt34 (fun W hW i u hu => Sl.cells_at (Z65.chg hW Dj.nil) hx68 0 hu (by rfl)) ?_
      refine wH_done (by kernel_rfl) ?_
      refine eX_tail ?_
      refine wS_eqS (d := 16) (T := 34) (x := p1_0) (y := p1_1) (x' := x67.1) (y' := x67.2) (by kernel_rfl) eq34 ?_
      refine wS_end (by rfl) ?_
      refine eX_then ?_
      refine cW_cond (t := p1_0 == x67.1 && p1_1 == x67.2) (by kernel_rfl) (fun hb69 => ?_) (fun hb69 => ?_)
      · have hm := condT hb69 hm
        refine cW_seq ?_
        refine cW_region ?_
        refine wS_pure 2 [(4, .int .i64 (x46)), (17, .int .i64 (x46))] (by kernel_rfl) ?_
        refine wS_end (by rfl) ?_
        refine eX_then ?_
        refine cW_ret ?_
        refine eX_block_ret ?_
        refine eX_then_ret ?_
        have hq : (some (Ctl.out (Sum.inr x46)) : Option (Ctl (Int) (Sum (Unit) ((Int))))) = some _ := hm
        replace hq := someE hq
        subst hq
        refine eX_outR hx55 (fun hr => ?_)
        subst hr
        refine eX_block_ret ?_
        refine eX_then_ret ?_
        refine eX_then_ret ?_
        have hq : (some x46 : Option ((Int))) = some _ := hm52
        replace hq := someE hq
        subst hq
        refine eX_ret (vs := [.int .i64 (x46)]) [.tmp 4] (by rfl) ⟨by (show lkE _ _ _ = _); kernel_rfl, trivial⟩ ?_
        exact ⟨rfl, hB⟩
      · have hm := condF hb69 hm
        refine cW_skip ?_
        refine eX_block ?_
        refine eX_then ?_
        refine cW_region ?_
        refine wS_pure 2 [(8, .int .i64 (wr (x46 + 1))), (18, .int .i64 (wr (x46 + 1)))] (by kernel_rfl) ?_
        refine wS_end (by rfl) ?_
        have hq : (some (Ctl.next (wr (x46 + 1))) : Option (Ctl (Int) (Sum (Unit) ((Int))))) = some _ := hm
        replace hq := someE hq
        subst hq
        exact eX_next hx55 (fun hst => ⟨wr (x46 + 1), rfl, Fr.of hst (by kernel_rfl), F48, F49, hB, hZ⟩)
    · have hm := condF hb56 hm
      refine cW_exit ?_
      refine eX_then_exit ?_
      have hq : (some (Ctl.out (Sum.inl (()))) : Option (Ctl (Int) (Sum (Unit) ((Int))))) = some _ := hm
      replace hq := someE hq
      subst hq
      refine eX_outX hx55 (fun hr70 => ?_)
      replace hr70 := hr70.symm
      subst hr70
      refine eX_block_hit ?_
      exact eX_J (fun hst => ⟨rfl, Fr.of hst (by kernel_rfl), hB, hZ⟩)
  · rintro a' w43 ⟨hJ, hF44, hB, hZ⟩
    subst hJ
    refine Fr.goX hF44 (by kernel_rfl) ?_
    refine eX_then ?_
    refine cW_seq ?_
    refine cW_region ?_
    refine wS_pure 1 [(4, .int .i64 ((-1)))] (by kernel_rfl) ?_
    refine wS_end (by rfl) ?_
    refine eX_then ?_
    refine cW_ret ?_
    have hq : (some ((-1)) : Option ((Int))) = some _ := hm
    replace hq := someE hq
    subst hq
    refine eX_ret (vs := [.int .i64 ((-1))]) [.tmp 4] (by rfl) ⟨by (show lkE _ _ _ = _); kernel_rfl, trivial⟩ ?_
    exact ⟨rfl, hB⟩

set_option maxRecDepth 100000 in
/-- spec.l00Own -/
theorem c_spec_l00Own {w0 : World} {l0 : List (Int)} {A0 : Option Addr} {cap0 : Nat} {fp0 : List Nat} {r : (List (Int))} (hm : m_spec_l00Own l0 = some r) (F0 : Sl 1 encI w0 fp0 A0 l0) :
    Calls Try.prog 133 #[.slice A0 (l0).length cap0] w0 fun e w' => ∃ A100 cap100 fp100, e = .returned (.slice A100 (r).length cap100) ∧ Ow 1 encI 2 w' fp100 A100 cap100 r ∧ (∀ x ∈ fp100, w0.heap.size ≤ x) ∧ Chg [] w0 w' := by
  have L0 := F0.low
  have hB : Chg [] w0 w0 := Chg.refl _ _
  have hZ := Nat.le_refl w0.heap.size
  unfold m_spec_l00Own at hm
  refine enterE (N := 6) Try.func133 (by rfl) Try.ntmps133 (by simp) [(0, .slice A0 (l0).length cap0)] (by rfl) (by kernel_rfl) (fun a => ?_)
  refine cW_seq ?_
  refine cW_region ?_
  refine wS_pure 1 [(2, .slice none 0 0)] (by kernel_rfl) ?_
  refine wS_end (by rfl) ?_
  refine eX_then ?_
  refine cW_seq ?_
  refine cW_region ?_
  refine wS_bs0 (α := Int) (enc := encI) (d := 3) (t := 78) (T := 2) (by kernel_rfl) el78 ?_
  intro b2 w3 G4 F5 hc6
  replace F0 := F0.chg hc6 Dj.nil
  replace hB := hB.inS hc6 inNil
  replace G4 := Nat.le_trans hZ G4
  replace G4 := low1 G4
  replace hZ := Nat.le_trans hZ hc6.size
  refine wS_pure 1 [(4, .slice A0 (l0).length cap0)] (by kernel_rfl) ?_
  obtain ⟨_, hk8, hm⟩ := bindE hm
  replace hk8 := apE hk8
  refine wS_appendAny (enc := encI) (l := (([] : List (Int)) : List (Int))) (l2 := (l0 : List (Int))) (d := 5) (t := 78) (T := 2) (A := (some ⟨b2, 0, none⟩)) (A2 := A0) (cap := 0) (cap2 := cap0) (by kernel_rfl) el78 encI_ok F5 F0 hk8 ?_
  intro w9 fp10 A11 cap12 F13 hc14 hp15
  have G17 := low_ap G4 hZ hp15
  replace F0 := F0.chg hc14 (Dj.of L0 G4)
  replace hB := hB.inS hc14 (inLow G4)
  replace hZ := Nat.le_trans hZ hc14.size
  refine wS_pure 1 [(2, .slice A11 ((([] : List (Int))) ++ l0).length cap12)] (by kernel_rfl) ?_
  refine wS_end (by rfl) ?_
  refine eX_then ?_
  refine cW_ret ?_
  have hq : (some ((([] : List (Int))) ++ l0) : Option ((List (Int)))) = some _ := hm
  replace hq := someE hq
  subst hq
  refine eX_ret (vs := [.slice A11 ((([] : List (Int))) ++ l0).length cap12]) [.tmp 2] (by rfl) ⟨by (show lkE _ _ _ = _); kernel_rfl, trivial⟩ ?_
  exact ⟨A11, cap12, fp10, rfl, F13, G17, hB⟩

end Go.Proofs.Ytdkpfkmmblmlhaa
