/- Printed walks: laws.szPointS, spec.l00In, spec.l01Point, spec.l00Max, spec.l01Abs, spec.l01Far, spec.l01Index, spec.l01Path, laws.toPoint, laws.toPointS, impl.in, impl.IsPoint, impl.noPoint, impl.size, impl.far, slices.IndexFunc[[]impl.Point,impl.Point], slices.ContainsFunc[[]impl.Point,impl.Point], impl.IsPath, laws.eqPoint, laws.eqPointS, impl.LengthOf, spec.l01Bend, impl.corners, impl.BendsOf, laws.markPointS, laws.heldPointS, spec.l01Corners, impl.CornersOf, laws.b10Long, spec.l00From, (*spec.l00Src).next, (*spec.l00Src).pick, (*spec.l00Src).one. -/
import Derived.Test.YtdkpfkmmblmlhaaProg
import Derived.Test.YtdkpfkmmblmlhaaMod
import Derived.Test.YtdkpfkmmblmlhaaEqs
import Derived.Test.YtdkpfkmmblmlhaaSrtC
import Derived.Test.YtdkpfkmmblmlhaaMxd
import Derived.Test.YtdkpfkmmblmlhaaWSo01
set_option linter.unusedSimpArgs false
set_option linter.unusedVariables false
namespace Go.Proofs.Ytdkpfkmmblmlhaa
open Go.RowKit
attribute [local irreducible] wS cW eX wH

theorem ent23 : Ent Try.prog 23 := fun _ => by kernel_rfl
theorem ent28 : Ent Try.prog 28 := fun _ => by kernel_rfl
theorem ent42 : Ent Try.prog 42 := fun _ => by kernel_rfl
theorem ent71 : Ent Try.prog 71 := fun _ => by kernel_rfl
theorem ent72 : Ent Try.prog 72 := fun _ => by kernel_rfl
theorem ent73 : Ent Try.prog 73 := fun _ => by kernel_rfl
theorem ent74 : Ent Try.prog 74 := fun _ => by kernel_rfl
theorem ent76 : Ent Try.prog 76 := fun _ => by kernel_rfl
theorem ent79 : Ent Try.prog 79 := fun _ => by kernel_rfl
theorem ent81 : Ent Try.prog 81 := fun _ => by kernel_rfl
theorem ent82 : Ent Try.prog 82 := fun _ => by kernel_rfl
theorem ent84 : Ent Try.prog 84 := fun _ => by kernel_rfl
theorem ent93 : Ent Try.prog 93 := fun _ => by kernel_rfl
theorem ent95 : Ent Try.prog 95 := fun _ => by kernel_rfl
theorem ent117 : Ent Try.prog 117 := fun _ => by kernel_rfl
theorem ent118 : Ent Try.prog 118 := fun _ => by kernel_rfl
theorem ent122 : Ent Try.prog 122 := fun _ => by kernel_rfl
theorem ent123 : Ent Try.prog 123 := fun _ => by kernel_rfl
theorem ent125 : Ent Try.prog 125 := fun _ => by kernel_rfl
theorem ent126 : Ent Try.prog 126 := fun _ => by kernel_rfl
theorem ent128 : Ent Try.prog 128 := fun _ => by kernel_rfl
theorem vt5 : VarTy Try.prog 5 1 false := ⟨by kernel_rfl, by kernel_rfl⟩
theorem vt32 : VarTy Try.prog 32 2 true := ⟨by kernel_rfl, by kernel_rfl⟩
theorem vt43 : VarTy Try.prog 43 1 false := ⟨by kernel_rfl, by kernel_rfl⟩
theorem vt96 : VarTy Try.prog 96 1 false := ⟨by kernel_rfl, by kernel_rfl⟩
theorem sl22 : SlTy Try.prog 22 32 2 := ⟨Try.underlying22, by kernel_rfl⟩
theorem sl43 : SlTy Try.prog 43 5 1 := ⟨Try.underlying43, by kernel_rfl⟩
theorem sz2 : pureRun Try.prog (sizeOf 2) = some 1 := by kernel_rfl
theorem sz3 : pureRun Try.prog (sizeOf 3) = some 1 := by kernel_rfl
theorem sz96 : pureRun Try.prog (sizeOf 96) = some 1 := by kernel_rfl

set_option maxRecDepth 100000 in
/-- laws.szPointS -/
theorem c_laws_szPointS {w0 : World} {l0 : List (Int × Int)} {A0 : Option Addr} {cap0 : Nat} {fp0 : List Nat} {p1 : Int} {r : (Int)} (hm : m_laws_szPointS l0 p1 = some r) (F0 : Sl 2 encII w0 fp0 A0 l0) :
    Calls Try.prog 20 #[.slice A0 (l0).length cap0, .int .i64 (p1)] w0 fun e w' => e = .returned (.int .i64 (r)) ∧ Chg [] w0 w' := by
  have L0 := F0.low
  have hB : Chg [] w0 w0 := Chg.refl _ _
  have hZ := Nat.le_refl w0.heap.size
  unfold m_laws_szPointS at hm
  refine enterE (N := 12) Try.func20 (by rfl) Try.ntmps20 (by simp) [(0, .slice A0 (l0).length cap0), (1, .int .i64 (p1))] (by rfl) (by kernel_rfl) (fun a => ?_)
  refine cW_seq ?_
  refine cW_region ?_
  refine wS_pure 1 [(4, .int .i64 (0))] (by kernel_rfl) ?_
  refine wS_end (by rfl) ?_
  refine eX_then ?_
  refine cW_seq ?_
  refine cW_region ?_
  refine wS_pure 5 [(1, .int .i64 (wr (p1 - (((l0).length : Int))))), (8, .int .i64 (wr (p1 - (((l0).length : Int))))), (7, .int .i64 (((l0).length : Int))), (6, .slice A0 (l0).length cap0), (5, .int .i64 (p1))] (by kernel_rfl) ?_
  refine wS_end (by rfl) ?_
  refine eX_then ?_
  refine cW_seq ?_
  refine cW_seq ?_
  refine cW_region ?_
  refine wS_pure 2 [(10, .bool (decide ((wr (p1 - (((l0).length : Int)))) < 0))), (9, .int .i64 (wr (p1 - (((l0).length : Int)))))] (by kernel_rfl) ?_
  refine wS_end (by rfl) ?_
  refine eX_then ?_
  refine cW_cond (t := decide ((wr (p1 - (((l0).length : Int)))) < 0)) (by kernel_rfl) (fun hb2 => ?_) (fun hb2 => ?_)
  · have hm := condT hb2 hm
    refine cW_seq ?_
    refine cW_region ?_
    refine wS_pure 1 [(4, .int .i64 ((-1)))] (by kernel_rfl) ?_
    refine wS_end (by rfl) ?_
    refine eX_then ?_
    refine cW_ret ?_
    refine eX_then_ret ?_
    have hq : (some ((-1)) : Option ((Int))) = some _ := hm
    replace hq := someE hq
    subst hq
    refine eX_ret (vs := [.int .i64 ((-1))]) [.tmp 4] (by rfl) ⟨by (show lkE _ _ _ = _); kernel_rfl, trivial⟩ ?_
    exact ⟨rfl, hB⟩
  · have hm := condF hb2 hm
    refine cW_skip ?_
    refine eX_then ?_
    refine cW_seq ?_
    refine cW_region ?_
    refine wS_pure 2 [(4, .int .i64 (wr (p1 - (((l0).length : Int))))), (11, .int .i64 (wr (p1 - (((l0).length : Int)))))] (by kernel_rfl) ?_
    refine wS_end (by rfl) ?_
    refine eX_then ?_
    refine cW_ret ?_
    have hq : (some (wr (p1 - (((l0).length : Int)))) : Option ((Int))) = some _ := hm
    replace hq := someE hq
    subst hq
    refine eX_ret (vs := [.int .i64 (wr (p1 - (((l0).length : Int))))]) [.tmp 4] (by rfl) ⟨by (show lkE _ _ _ = _); kernel_rfl, trivial⟩ ?_
    exact ⟨rfl, hB⟩

set_option maxRecDepth 100000 in
/-- spec.l00In -/
theorem c_spec_l00In {w0 : World} {p0 : Int} {p1 : Int} {p2 : Int} {r : (Bool)} (hm : m_spec_l00In p0 p1 p2 = some r)  :
    Calls Try.prog 122 #[.int .i64 (p0), .int .i64 (p1), .int .i64 (p2)] w0 fun e w' => e = .returned (.bool (r)) ∧ Chg [] w0 w' := by
  have hB : Chg [] w0 w0 := Chg.refl _ _
  have hZ := Nat.le_refl w0.heap.size
  unfold m_spec_l00In at hm
  refine enterE (N := 15) Try.func122 (by rfl) Try.ntmps122 (by simp) [(0, .int .i64 (p0)), (1, .int .i64 (p1)), (2, .int .i64 (p2))] (by rfl) (by kernel_rfl) (fun a => ?_)
  refine cW_seq ?_
  refine cW_region ?_
  refine wS_pure 1 [(6, .bool (false))] (by kernel_rfl) ?_
  refine wS_end (by rfl) ?_
  refine eX_then ?_
  refine cW_seq ?_
  refine cW_region ?_
  refine wS_pure 4 [(10, .bool (decide (p0 ≥ p1))), (9, .bool (decide (p0 ≥ p1))), (8, .int .i64 (p1)), (7, .int .i64 (p0))] (by kernel_rfl) ?_
  refine wS_bool (decide (p0 ≥ p1)) (fun hb1 => ?_) (fun hb1 => ?_)
  · have hm := condT hb1 hm
    rewrite [hb1]
    refine wS_pure 5 [(6, .bool (decide (p0 ≤ p2))), (14, .bool (decide (p0 ≤ p2))), (13, .bool (decide (p0 ≤ p2))), (12, .int .i64 (p2)), (11, .int .i64 (p0))] (by kernel_rfl) ?_
    refine wS_end (by rfl) ?_
    refine eX_then ?_
    refine cW_ret ?_
    have hq : (some (decide (p0 ≤ p2)) : Option ((Bool))) = some _ := hm
    replace hq := someE hq
    subst hq
    refine eX_ret (vs := [.bool (decide (p0 ≤ p2))]) [.tmp 6] (by rfl) ⟨by (show lkE _ _ _ = _); kernel_rfl, trivial⟩ ?_
    exact ⟨rfl, hB⟩
  · have hm := condF hb1 hm
    rewrite [hb1]
    refine wS_pure 5 [(6, .bool (false)), (14, .bool (false)), (13, undef), (12, undef), (11, undef)] (by kernel_rfl) ?_
    refine wS_end (by rfl) ?_
    refine eX_then ?_
    refine cW_ret ?_
    have hq : (some false : Option ((Bool))) = some _ := hm
    replace hq := someE hq
    subst hq
    refine eX_ret (vs := [.bool (false)]) [.tmp 6] (by rfl) ⟨by (show lkE _ _ _ = _); kernel_rfl, trivial⟩ ?_
    exact ⟨rfl, hB⟩

set_option maxRecDepth 100000 in
/-- spec.l01Point -/
theorem c_spec_l01Point {w0 : World} {p0_0 : Int} {p0_1 : Int} {r : (Bool)} (hm : m_spec_l01Point p0_0 p0_1 = some r)  :
    Calls Try.prog 76 #[.agg #[.int .i64 (p0_0), .int .i64 (p0_1)]] w0 fun e w' => e = .returned (.bool (r)) ∧ Chg [] w0 w' := by
  have hB : Chg [] w0 w0 := Chg.refl _ _
  have hZ := Nat.le_refl w0.heap.size
  unfold m_spec_l01Point at hm
  refine enterE (N := 11) Try.func76 (by rfl) Try.ntmps76 (by simp) [(0, .agg #[.int .i64 (p0_0), .int .i64 (p0_1)])] (by rfl) (by kernel_rfl) (fun a => ?_)
  refine cW_seq ?_
  refine cW_region ?_
  refine wS_box (d := 1) (T := 34) (x := .agg #[.int .i64 (p0_0), .int .i64 (p0_1)]) (by kernel_rfl) ?_
  intro b1 w2 G3 F4 hc5
  replace F4 : Cl w2 b1 34 [.int .i64 (p0_0), .int .i64 (p0_1)] := F4
  replace hB := hB.inS hc5 inNil
  replace G3 := Nat.le_trans hZ G3
  replace hZ := Nat.le_trans hZ hc5.size
  refine wS_pure 1 [(2, .bool (false))] (by kernel_rfl) ?_
  refine wS_end (by rfl) ?_
  refine eX_then ?_
  refine cW_seq ?_
  refine cW_region ?_
  refine wS_pure 1 [(3, .pointer (some ⟨b1, 0, none⟩))] (by kernel_rfl) ?_
  refine wS_load1 (d := 4) (T := 2) (ad := ⟨b1, 0, none⟩) (v := .int .i64 (p0_0)) (by kernel_rfl) vt2 ((F4).cell 0) ?_
  obtain ⟨y7, hy8, hm⟩ := bindE hm
  refine wS_calls (d := 5) (f := 122) (vs := [.int .i64 (p0_0), .int .i64 (0), .int .i64 (99)]) (by kernel_rfl) ent122 (c_spec_l00In hy8) ?_
  rintro _ w9 ⟨rfl, hc10⟩
  replace F4 := F4.chg hc10 notNil
  replace hB := hB.inS hc10 inNil
  replace hZ := Nat.le_trans hZ hc10.size
  refine ⟨.bool (y7), rfl, ?_⟩
  refine wS_pure 1 [(6, .bool (y7))] (by kernel_rfl) ?_
  refine wS_bool y7 (fun hb11 => ?_) (fun hb11 => ?_)
  · have hm := condT hb11 hm
    rewrite [hb11]
    refine wS_pure 1 [(7, .pointer (some ⟨b1, 1, none⟩))] (by kernel_rfl) ?_
    refine wS_load1 (d := 8) (T := 2) (ad := ⟨b1, 1, none⟩) (v := .int .i64 (p0_1)) (by kernel_rfl) vt2 ((F4).cell 1) ?_
    obtain ⟨y12, hy13, hm⟩ := bindE hm
    refine wS_calls (d := 9) (f := 122) (vs := [.int .i64 (p0_1), .int .i64 (0), .int .i64 (99)]) (by kernel_rfl) ent122 (c_spec_l00In hy13) ?_
    rintro _ w14 ⟨rfl, hc15⟩
    replace F4 := F4.chg hc15 notNil
    replace hB := hB.inS hc15 inNil
    replace hZ := Nat.le_trans hZ hc15.size
    refine ⟨.bool (y12), rfl, ?_⟩
    refine wS_pure 2 [(2, .bool (y12)), (10, .bool (y12))] (by kernel_rfl) ?_
    refine wS_end (by rfl) ?_
    refine eX_then ?_
    refine cW_ret ?_
    have hq : (some y12 : Option ((Bool))) = some _ := hm
    replace hq := someE hq
    subst hq
    refine eX_ret (vs := [.bool (y12)]) [.tmp 2] (by rfl) ⟨by (show lkE _ _ _ = _); kernel_rfl, trivial⟩ ?_
    exact ⟨rfl, hB⟩
  · have hm := condF hb11 hm
    rewrite [hb11]
    refine wS_pure 5 [(2, .bool (false)), (10, .bool (false)), (9, undef), (8, undef), (7, undef)] (by kernel_rfl) ?_
    refine wS_end (by rfl) ?_
    refine eX_then ?_
    refine cW_ret ?_
    have hq : (some false : Option ((Bool))) = some _ := hm
    replace hq := someE hq
    subst hq
    refine eX_ret (vs := [.bool (false)]) [.tmp 2] (by rfl) ⟨by (show lkE _ _ _ = _); kernel_rfl, trivial⟩ ?_
    exact ⟨rfl, hB⟩

set_option maxRecDepth 100000 in
/-- spec.l00Max -/
theorem c_spec_l00Max {w0 : World} {p0 : Int} {p1 : Int} {r : (Int)} (hm : m_spec_l00Max p0 p1 = some r)  :
    Calls Try.prog 125 #[.int .i64 (p0), .int .i64 (p1)] w0 fun e w' => e = .returned (.int .i64 (r)) ∧ Chg [] w0 w' := by
  have hB : Chg [] w0 w0 := Chg.refl _ _
  have hZ := Nat.le_refl w0.heap.size
  unfold m_spec_l00Max at hm
  refine enterE (N := 10) Try.func125 (by rfl) Try.ntmps125 (by simp) [(0, .int .i64 (p0)), (1, .int .i64 (p1))] (by rfl) (by kernel_rfl) (fun a => ?_)
  refine cW_seq ?_
  refine cW_region ?_
  refine wS_pure 1 [(4, .int .i64 (0))] (by kernel_rfl) ?_
  refine wS_end (by rfl) ?_
  refine eX_then ?_
  refine cW_seq ?_
  refine cW_seq ?_
  refine cW_region ?_
  refine wS_pure 3 [(7, .bool (decide (p0 > p1))), (6, .int .i64 (p1)), (5, .int .i64 (p0))] (by kernel_rfl) ?_
  refine wS_end (by rfl) ?_
  refine eX_then ?_
  refine cW_cond (t := decide (p0 > p1)) (by kernel_rfl) (fun hb1 => ?_) (fun hb1 => ?_)
  · have hm := condT hb1 hm
    refine cW_seq ?_
    refine cW_region ?_
    refine wS_pure 2 [(4, .int .i64 (p0)), (8, .int .i64 (p0))] (by kernel_rfl) ?_
    refine wS_end (by rfl) ?_
    refine eX_then ?_
    refine cW_ret ?_
    refine eX_then_ret ?_
    have hq : (some p0 : Option ((Int))) = some _ := hm
    replace hq := someE hq
    subst hq
    refine eX_ret (vs := [.int .i64 (p0)]) [.tmp 4] (by rfl) ⟨by (show lkE _ _ _ = _); kernel_rfl, trivial⟩ ?_
    exact ⟨rfl, hB⟩
  · have hm := condF hb1 hm
    refine cW_skip ?_
    refine eX_then ?_
    refine cW_seq ?_
    refine cW_region ?_
    refine wS_pure 2 [(4, .int .i64 (p1)), (9, .int .i64 (p1))] (by kernel_rfl) ?_
    refine wS_end (by rfl) ?_
    refine eX_then ?_
    refine cW_ret ?_
    have hq : (some p1 : Option ((Int))) = some _ := hm
    replace hq := someE hq
    subst hq
    refine eX_ret (vs := [.int .i64 (p1)]) [.tmp 4] (by rfl) ⟨by (show lkE _ _ _ = _); kernel_rfl, trivial⟩ ?_
    exact ⟨rfl, hB⟩

set_option maxRecDepth 100000 in
/-- spec.l01Abs -/
theorem c_spec_l01Abs {w0 : World} {p0 : Int} {r : (Int)} (hm : m_spec_l01Abs p0 = some r)  :
    Calls Try.prog 126 #[.int .i64 (p0)] w0 fun e w' => e = .returned (.int .i64 (r)) ∧ Chg [] w0 w' := by
  have hB : Chg [] w0 w0 := Chg.refl _ _
  have hZ := Nat.le_refl w0.heap.size
  unfold m_spec_l01Abs at hm
  refine enterE (N := 7) Try.func126 (by rfl) Try.ntmps126 (by simp) [(0, .int .i64 (p0))] (by rfl) (by kernel_rfl) (fun a => ?_)
  refine cW_seq ?_
  refine cW_region ?_
  refine wS_pure 1 [(2, .int .i64 (0))] (by kernel_rfl) ?_
  refine wS_end (by rfl) ?_
  refine eX_then ?_
  refine cW_seq ?_
  refine cW_region ?_
  refine wS_pure 3 [(5, .int .i64 (wr (0 - p0))), (4, .int .i64 (p0)), (3, .int .i64 (p0))] (by kernel_rfl) ?_
  obtain ⟨y1, hy2, hm⟩ := bindE hm
  refine wS_calls (d := 6) (f := 125) (vs := [.int .i64 (p0), .int .i64 (wr (0 - p0))]) (by kernel_rfl) ent125 (c_spec_l00Max hy2) ?_
  rintro _ w3 ⟨rfl, hc4⟩
  replace hB := hB.inS hc4 inNil
  replace hZ := Nat.le_trans hZ hc4.size
  refine ⟨.int .i64 (y1), rfl, ?_⟩
  refine wS_pure 1 [(2, .int .i64 (y1))] (by kernel_rfl) ?_
  refine wS_end (by rfl) ?_
  refine eX_then ?_
  refine cW_ret ?_
  have hq : (some y1 : Option ((Int))) = some _ := hm
  replace hq := someE hq
  subst hq
  refine eX_ret (vs := [.int .i64 (y1)]) [.tmp 2] (by rfl) ⟨by (show lkE _ _ _ = _); kernel_rfl, trivial⟩ ?_
  exact ⟨rfl, hB⟩

set_option maxRecDepth 100000 in
/-- spec.l01Far -/
theorem c_spec_l01Far {w0 : World} {p0_0 : Int} {p0_1 : Int} {p1_0 : Int} {p1_1 : Int} {r : (Int)} (hm : m_spec_l01Far p0_0 p0_1 p1_0 p1_1 = some r)  :
    Calls Try.prog 84 #[.agg #[.int .i64 (p0_0), .int .i64 (p0_1)], .agg #[.int .i64 (p1_0), .int .i64 (p1_1)]] w0 fun e w' => e = .returned (.int .i64 (r)) ∧ Chg [] w0 w' := by
  have hB : Chg [] w0 w0 := Chg.refl _ _
  have hZ := Nat.le_refl w0.heap.size
  unfold m_spec_l01Far at hm
  refine enterE (N := 18) Try.func84 (by rfl) Try.ntmps84 (by simp) [(0, .agg #[.int .i64 (p0_0), .int .i64 (p0_1)]), (1, .agg #[.int .i64 (p1_0), .int .i64 (p1_1)])] (by rfl) (by kernel_rfl) (fun a => ?_)
  refine cW_seq ?_
  refine cW_region ?_
  refine wS_box (d := 2) (T := 34) (x := .agg #[.int .i64 (p0_0), .int .i64 (p0_1)]) (by kernel_rfl) ?_
  intro b1 w2 G3 F4 hc5
  replace F4 : Cl w2 b1 34 [.int .i64 (p0_0), .int .i64 (p0_1)] := F4
  replace hB := hB.inS hc5 inNil
  replace G3 := Nat.le_trans hZ G3
  replace hZ := Nat.le_trans hZ hc5.size
  refine wS_box (d := 3) (T := 34) (x := .agg #[.int .i64 (p1_0), .int .i64 (p1_1)]) (by kernel_rfl) ?_
  intro b7 w8 G9 F10 hc11
  replace F10 : Cl w8 b7 34 [.int .i64 (p1_0), .int .i64 (p1_1)] := F10
  have D13 : Dj [b1] [b7] := Dj.of (lt1 F4.lt) (low1 G9)
  replace F4 := F4.chg hc11 notNil
  replace hB := hB.inS hc11 inNil
  replace G9 := Nat.le_trans hZ G9
  replace hZ := Nat.le_trans hZ hc11.size
  refine wS_pure 1 [(4, .int .i64 (0))] (by kernel_rfl) ?_
  refine wS_end (by rfl) ?_
  refine eX_then ?_
  refine cW_seq ?_
  refine cW_drawnTail [] 11 (by kernel_rfl) (by kernel_rfl) (fun w26 hc27 => ?_)
  replace F4 := F4.chg hc27 notNil
  replace F10 := F10.chg hc27 notNil
  replace hB := hB.inS hc27 inNil
  replace hZ := Nat.le_trans hZ hc27.size
  have hS := Chg.refl [] w26
  have Z28 := F4
  have Z29 := F10
  refine wH_take [0] [0] [(5, .pointer (some ⟨b1, 0, none⟩))] (by kernel_rfl) (qT (qT qZ)) (by kernel_rfl) ?_
  refine wH_load1 (i := 1) (d := 6) (T := 2) (ad := ⟨b1, 0, none⟩) (v := .int .i64 (p0_0)) (by kernel_rfl) (qT (qT qZ)) (by kernel_rfl) (by kernel_rfl) vt2 (fun W hW => (Z28.chg hW notNil).cell 0) ?_
  refine wH_take [2] [2, 1, 0] [(7, .pointer (some ⟨b7, 0, none⟩))] (by kernel_rfl) (qT (qT qZ)) (by kernel_rfl) ?_
  refine wH_load1 (i := 3) (d := 8) (T := 2) (ad := ⟨b7, 0, none⟩) (v := .int .i64 (p1_0)) (by kernel_rfl) (qT (qT qZ)) (by kernel_rfl) (by kernel_rfl) vt2 (fun W hW => (Z29.chg hW notNil).cell 0) ?_
  refine wH_take [4, 6] [6, 4, 3, 2, 1, 0] [(11, .pointer (some ⟨b1, 1, none⟩)), (9, .int .i64 (wr (p0_0 - p1_0)))] (by kernel_rfl) (qT (qT qZ)) (by kernel_rfl) ?_
  refine wH_load1 (i := 7) (d := 12) (T := 2) (ad := ⟨b1, 1, none⟩) (v := .int .i64 (p0_1)) (by kernel_rfl) (qT (qT qZ)) (by kernel_rfl) (by kernel_rfl) vt2 (fun W hW => (Z28.chg hW notNil).cell 1) ?_
  refine wH_take [8] [8, 7, 6, 4, 3, 2, 1, 0] [(13, .pointer (some ⟨b7, 1, none⟩))] (by kernel_rfl) (qT (qT qZ)) (by kernel_rfl) ?_
  refine wH_load1 (i := 9) (d := 14) (T := 2) (ad := ⟨b7, 1, none⟩) (v := .int .i64 (p1_1)) (by kernel_rfl) (qT (qT qZ)) (by kernel_rfl) (by kernel_rfl) vt2 (fun W hW => (Z29.chg hW notNil).cell 1) ?_
  refine wH_take [10] [10, 9, 8, 7, 6, 4, 3, 2, 1, 0] [(15, .int .i64 (wr (p0_1 - p1_1)))] (by kernel_rfl) (qT (qT qZ)) (by kernel_rfl) ?_
  refine wH_all [5] (by rfl) (by kernel_rfl) (by simp) ⟨⟨by kernel_rfl, ?_⟩, trivial⟩
  obtain ⟨y30, hy31, hm⟩ := bindE hm
  refine wS_calls (d := 10) (f := 126) (vs := [.int .i64 (wr (p0_0 - p1_0))]) (by kernel_rfl) ent126 (c_spec_l01Abs hy31) ?_
  rintro _ w32 ⟨rfl, hc33⟩
  replace F4 := F4.chg hc33 notNil
  replace F10 := F10.chg hc33 notNil
  replace hB := hB.inS hc33 inNil
  have hSz := hS
  replace hS := hS.inS hc33 inNil
  replace hZ := Nat.le_trans hZ hc33.size
  refine ⟨.int .i64 (y30), rfl, ?_⟩
  refine wS_end (by kernel_rfl) ?_
  refine eX_KH hS ?_
  refine wH_done (by kernel_rfl) ?_
  refine eX_tail ?_
  obtain ⟨y34, hy35, hm⟩ := bindE hm
  refine wS_calls (d := 16) (f := 126) (vs := [.int .i64 (wr (p0_1 - p1_1))]) (by kernel_rfl) ent126 (c_spec_l01Abs hy35) ?_
  rintro _ w36 ⟨rfl, hc37⟩
  replace F4 := F4.chg hc37 notNil
  replace F10 := F10.chg hc37 notNil
  replace hB := hB.inS hc37 inNil
  replace hZ := Nat.le_trans hZ hc37.size
  refine ⟨.int .i64 (y34), rfl, ?_⟩
  refine wS_pure 2 [(4, .int .i64 (wr (y30 + y34))), (17, .int .i64 (wr (y30 + y34)))] (by kernel_rfl) ?_
  refine wS_end (by rfl) ?_
  refine eX_then ?_
  refine cW_ret ?_
  have hq : (some (wr (y30 + y34)) : Option ((Int))) = some _ := hm
  replace hq := someE hq
  subst hq
  refine eX_ret (vs := [.int .i64 (wr (y30 + y34))]) [.tmp 4] (by rfl) ⟨by (show lkE _ _ _ = _); kernel_rfl, trivial⟩ ?_
  exact ⟨rfl, hB⟩

set_option maxRecDepth 100000 in
/-- spec.l01Index -/
theorem c_spec_l01Index {w0 : World} {l0 : List (Int × Int)} {A0 : Option Addr} {cap0 : Nat} {fp0 : List Nat} {p1_0 : Int} {p1_1 : Int} {r : (Int)} (hm : m_spec_l01Index l0 p1_0 p1_1 = some r) (F0 : Sl 2 encII w0 fp0 A0 l0) :
    Calls Try.prog 95 #[.slice A0 (l0).length cap0, .agg #[.int .i64 (p1_0), .int .i64 (p1_1)]] w0 fun e w' => e = .returned (.int .i64 (r)) ∧ Chg [] w0 w' := by
  have L0 := F0.low
  have hB : Chg [] w0 w0 := Chg.refl _ _
  have hZ := Nat.le_refl w0.heap.size
  unfold m_spec_l01Index at hm
  refine enterE (N := 19) Try.func95 (by rfl) Try.ntmps95 (by simp) [(0, .slice A0 (l0).length cap0), (1, .agg #[.int .i64 (p1_0), .int .i64 (p1_1)])] (by rfl) (by kernel_rfl) (fun a => ?_)
  refine cW_seq ?_
  refine cW_region ?_
  refine wS_box (d := 3) (T := 34) (x := .agg #[.int .i64 (p1_0), .int .i64 (p1_1)]) (by kernel_rfl) ?_
  intro b2 w3 G4 F5 hc6
  replace F5 : Cl w3 b2 34 [.int .i64 (p1_0), .int .i64 (p1_1)] := F5
  replace F0 := F0.chg hc6 Dj.nil
  replace hB := hB.inS hc6 inNil
  replace G4 := Nat.le_trans hZ G4
  replace hZ := Nat.le_trans hZ hc6.size
  refine wS_pure 1 [(4, .int .i64 (0))] (by kernel_rfl) ?_
  refine wS_end (by rfl) ?_
  refine eX_then ?_
  refine cW_seq ?_
  refine cW_seq ?_
  refine cW_region ?_
  refine wS_pure 1 [(5, .int .i64 (0))] (by kernel_rfl) ?_
  refine wS_end (by rfl) ?_
  refine eX_then ?_
  obtain ⟨r50, hr51, hm⟩ := bindE hm
  have hm52 := hm
  refine cW_cut (fun a' w' => Sum.inl (()) = r50 ∧ Fr 19 [] a' ∧ Chg [] w0 w' ∧ w0.heap.size ≤ w'.heap.size) ?_ ?_
  · refine cW_block ?_
    refine cW_loop _ (fun (s53 : Int) a' w' => ∃ x46 : Int, x46 = s53 ∧ Fr 19 [(0, .slice A0 (l0).length cap0), (3, .pointer (some ⟨b2, 0, none⟩)), (5, .int .i64 (x46))] a' ∧ Sl 2 encII w' fp0 A0 l0 ∧ Cl w' b2 34 [.int .i64 (p1_0), .int .i64 (p1_1)] ∧ Chg [] w0 w' ∧ w0.heap.size ≤ w'.heap.size) hr51 (fun hst => ⟨0, rfl, Fr.of hst (by kernel_rfl), F0, F5, hB, hZ⟩) ?_
    rintro _ c54 a' w45 ⟨x46, rfl, hF47, F48, F49, hB, hZ⟩ hx55
    refine Fr.goOn hF47 (by kernel_rfl) ?_
    have hm := hx55
    unfold m_spec_l01Index_s1 at hm
    refine cW_seq ?_
    refine cW_seq ?_
    refine cW_region ?_
    refine wS_pure 4 [(9, .bool (decide (x46 < (((l0).length : Int))))), (8, .int .i64 (((l0).length : Int))), (7, .slice A0 (l0).length cap0), (6, .int .i64 (x46))] (by kernel_rfl) ?_
    refine wS_end (by rfl) ?_
    refine eX_then ?_
    refine cW_cond (t := decide (x46 < (((l0).length : Int)))) (by kernel_rfl) (fun hb56 => ?_) (fun hb56 => ?_)
    · have hm := condT hb56 hm
      refine cW_skip ?_
      refine eX_then ?_
      refine cW_seq ?_
      refine cW_block ?_
      refine cW_seq ?_
      refine cW_drawnTail [] 5 (by kernel_rfl) (by kernel_rfl) (fun w63 hc64 => ?_)
      replace F48 := F48.chg hc64 Dj.nil
      replace F49 := F49.chg hc64 notNil
      replace hB := hB.inS hc64 inNil
      replace hZ := Nat.le_trans hZ hc64.size
      have hS := Chg.refl [] w63
      have Z65 := F48
      have Z66 := F49
      refine wH_take [0, 1] [1, 0] [(13, .int .i64 (x46)), (12, .slice A0 (l0).length cap0)] (by kernel_rfl) (qT (qT (qB (qT (qL (qB (qT (qT qZ)))))))) (by kernel_rfl) ?_
      obtain ⟨x67, hx68, hm⟩ := bindE hm
      refine wH_idx (i := 2) (d := 14) (T := 25) (A := A0) (n := (l0).length) (cap := cap0) (kd := .i64) (m := x46) (by kernel_rfl) (qT (qT (qB (qT (qL (qB (qT (qT qZ)))))))) (by kernel_rfl) (by kernel_rfl) sl25 (F48.is hx68) ?_
      refine wH_loadA (i := 3) (d := 15) (T := 34) (ad := (elA A0 2 (x46) 0)) (vs := [.int .i64 (x67.1), .int .i64 (x67.2)]) (by kernel_rfl) (qT (qT (qB (qT (qL (qB (qT (qT qZ)))))))) (by kernel_rfl) (by kernel_rfl) vt34 (fun W hW i u hu => Sl.cells_at (Z65.chg hW Dj.nil) hx68 0 hu (by rfl)) ?_
      refine wH_loadA (i := 4) (d := 16) (T := 34) (ad := ⟨b2, 0, none⟩) (vs := [.int .i64 (p1_0), .int .i64 (p1_1)]) (by kernel_rfl) (qT (qT (qB (qT (qL (qB (qT (qT qZ)))))))) (by kernel_rfl) (by kernel_rfl) vt34 (fun W hW i u hu => box_cells (Z66.chg hW notNil) 0 hu (by rfl)) ?_
      refine wH_done (by kernel_rfl) ?_
      refine eX_tail ?_
      refine wS_eqS (d := 17) (T := 34) (x := x67.1) (y := x67.2) (x' := p1_0) (y' := p1_1) (by kernel_rfl) eq34 ?_
      refine wS_end (by rfl) ?_
      refine eX_then ?_
      refine cW_cond (t := x67.1 == p1_0 && x67.2 == p1_1) (by kernel_rfl) (fun hb69 => ?_) (fun hb69 => ?_)
      · have hm := condT hb69 hm
        refine cW_seq ?_
        refine cW_region ?_
        refine wS_pure 2 [(4, .int .i64 (x46)), (18, .int .i64 (x46))] (by kernel_rfl) ?_
        refine wS_end (by rfl) ?_
        refine eX_then ?_
        refine cW_ret ?_
        refine eX_block_ret ?_
        refine eX_then_ret ?_
        have hq : (some (Ctl.out (Sum.inr x46)) : Option (Ctl (Int) (Sum (Unit) ((Int))))) = some _ := hm
        replace hq := someE hq
        subst hq
        refine eX_outR hx55 (fun hr => ?_)
        subst hr
        refine eX_block_ret ?_
        refine eX_then_ret ?_
        refine eX_then_ret ?_
        have hq : (some x46 : Option ((Int))) = some _ := hm52
        replace hq := someE hq
        subst hq
        refine eX_ret (vs := [.int .i64 (x46)]) [.tmp 4] (by rfl) ⟨by (show lkE _ _ _ = _); kernel_rfl, trivial⟩ ?_
        exact ⟨rfl, hB⟩
      · have hm := condF hb69 hm
        refine cW_skip ?_
        refine eX_block ?_
        refine eX_then ?_
        refine cW_region ?_
        refine wS_pure 3 [(5, .int .i64 (wr (x46 + 1))), (11, .int .i64 (wr (x46 + 1))), (10, .int .i64 (x46))] (by kernel_rfl) ?_
        refine wS_end (by rfl) ?_
        have hq : (some (Ctl.next (wr (x46 + 1))) : Option (Ctl (Int) (Sum (Unit) ((Int))))) = some _ := hm
        replace hq := someE hq
        subst hq
        exact eX_next hx55 (fun hst => ⟨wr (x46 + 1), rfl, Fr.of hst (by kernel_rfl), F48, F49, hB, hZ⟩)
    · have hm := condF hb56 hm
      refine cW_exit ?_
      refine eX_then_exit ?_
      have hq : (some (Ctl.out (Sum.inl (()))) : Option (Ctl (Int) (Sum (Unit) ((Int))))) = some _ := hm
      replace hq := someE hq
      subst hq
      refine eX_outX hx55 (fun hr70 => ?_)
      replace hr70 := hr70.symm
      subst hr70
      refine eX_block_hit ?_
      exact eX_J (fun hst => ⟨rfl, Fr.of hst (by kernel_rfl), hB, hZ⟩)
  · rintro a' w43 ⟨hJ, hF44, hB, hZ⟩
    subst hJ
    refine Fr.goX hF44 (by kernel_rfl) ?_
    refine eX_then ?_
    refine cW_seq ?_
    refine cW_region ?_
    refine wS_pure 1 [(4, .int .i64 ((-1)))] (by kernel_rfl) ?_
    refine wS_end (by rfl) ?_
    refine eX_then ?_
    refine cW_ret ?_
    have hq : (some ((-1)) : Option ((Int))) = some _ := hm
    replace hq := someE hq
    subst hq
    refine eX_ret (vs := [.int .i64 ((-1))]) [.tmp 4] (by rfl) ⟨by (show lkE _ _ _ = _); kernel_rfl, trivial⟩ ?_
    exact ⟨rfl, hB⟩

set_option maxRecDepth 100000 in
/-- spec.l01Path -/
theorem c_spec_l01Path {w0 : World} {l0 : List (Int × Int)} {A0 : Option Addr} {cap0 : Nat} {fp0 : List Nat} {r : (Bool)} (hm : m_spec_l01Path l0 = some r) (F0 : Sl 2 encII w0 fp0 A0 l0) (K0 : (l0).length ≤ cap0) :
    Calls Try.prog 70 #[.slice A0 (l0).length cap0] w0 fun e w' => e = .returned (.bool (r)) ∧ Chg [] w0 w' := by
  have L0 := F0.low
  have hB : Chg [] w0 w0 := Chg.refl _ _
  have hZ := Nat.le_refl w0.heap.size
  unfold m_spec_l01Path at hm
  refine enterE (N := 52) Try.func70 (by rfl) Try.ntmps70 (by simp) [(0, .slice A0 (l0).length cap0)] (by rfl) (by kernel_rfl) (fun a => ?_)
  refine cW_seq ?_
  refine cW_region ?_
  refine wS_pure 1 [(2, .bool (false))] (by kernel_rfl) ?_
  refine wS_end (by rfl) ?_
  refine eX_then ?_
  refine cW_seq ?_
  refine cW_seq ?_
  refine cW_region ?_
  refine wS_pure 4 [(7, .bool (decide ((((l0).length : Int)) < 1))), (6, .bool (decide ((((l0).length : Int)) < 1))), (5, .int .i64 (((l0).length : Int))), (4, .slice A0 (l0).length cap0)] (by kernel_rfl) ?_
  refine wS_bool (decide ((((l0).length : Int)) < 1)) (fun hb2 => ?_) (fun hb2 => ?_)
  · have hm := condT hb2 hm
    rewrite [hb2]
    refine wS_pure 4 [(11, .bool (true)), (10, undef), (9, undef), (8, undef)] (by kernel_rfl) ?_
    refine wS_end (by rfl) ?_
    refine eX_then ?_
    refine cW_cond_t (by kernel_rfl) ?_
    refine cW_seq ?_
    refine cW_region ?_
    refine wS_pure 1 [(2, .bool (false))] (by kernel_rfl) ?_
    refine wS_end (by rfl) ?_
    refine eX_then ?_
    refine cW_ret ?_
    refine eX_then_ret ?_
    have hq : (some false : Option ((Bool))) = some _ := hm
    replace hq := someE hq
    subst hq
    refine eX_ret (vs := [.bool (false)]) [.tmp 2] (by rfl) ⟨by (show lkE _ _ _ = _); kernel_rfl, trivial⟩ ?_
    exact ⟨rfl, hB⟩
  · have hm := condF hb2 hm
    rewrite [hb2]
    refine wS_pure 4 [(11, .bool (decide ((((l0).length : Int)) > 576))), (10, .bool (decide ((((l0).length : Int)) > 576))), (9, .int .i64 (((l0).length : Int))), (8, .slice A0 (l0).length cap0)] (by kernel_rfl) ?_
    refine wS_end (by rfl) ?_
    refine eX_then ?_
    refine cW_cond (t := decide ((((l0).length : Int)) > 576)) (by kernel_rfl) (fun hb3 => ?_) (fun hb3 => ?_)
    · have hm := condT hb3 hm
      refine cW_seq ?_
      refine cW_region ?_
      refine wS_pure 1 [(2, .bool (false))] (by kernel_rfl) ?_
      refine wS_end (by rfl) ?_
      refine eX_then ?_
      refine cW_ret ?_
      refine eX_then_ret ?_
      have hq : (some false : Option ((Bool))) = some _ := hm
      replace hq := someE hq
      subst hq
      refine eX_ret (vs := [.bool (false)]) [.tmp 2] (by rfl) ⟨by (show lkE _ _ _ = _); kernel_rfl, trivial⟩ ?_
      exact ⟨rfl, hB⟩
    · have hm := condF hb3 hm
      refine cW_skip ?_
      refine eX_then ?_
      refine cW_seq ?_
      refine cW_seq ?_
      refine cW_region ?_
      refine wS_pure 1 [(3, .int .i64 (0))] (by kernel_rfl) ?_
      refine wS_end (by rfl) ?_
      refine eX_then ?_
      obtain ⟨r167, hr168, hm⟩ := bindE hm
      have hm169 := hm
      refine cW_cut (fun a' w' => Sum.inl (()) = r167 ∧ Fr 52 [] a' ∧ Chg [] w0 w' ∧ w0.heap.size ≤ w'.heap.size) ?_ ?_
      · refine cW_block ?_
        refine cW_loop _ (fun (s170 : Int) a' w' => ∃ x164 : Int, x164 = s170 ∧ Fr 52 [(0, .slice A0 (l0).length cap0), (3, .int .i64 (x164))] a' ∧ Sl 2 encII w' fp0 A0 l0 ∧ Chg [] w0 w' ∧ w0.heap.size ≤ w'.heap.size) hr168 (fun hst => ⟨0, rfl, Fr.of hst (by kernel_rfl), F0, hB, hZ⟩) ?_
        rintro _ c171 a' w163 ⟨x164, rfl, hF165, F166, hB, hZ⟩ hx172
        refine Fr.goOn hF165 (by kernel_rfl) ?_
        have hm := hx172
        unfold m_spec_l01Path_s1 at hm
        refine cW_seq ?_
        refine cW_seq ?_
        refine cW_region ?_
        refine wS_pure 4 [(15, .bool (decide (x164 < (((l0).length : Int))))), (14, .int .i64 (((l0).length : Int))), (13, .slice A0 (l0).length cap0), (12, .int .i64 (x164))] (by kernel_rfl) ?_
        refine wS_end (by rfl) ?_
        refine eX_then ?_
        refine cW_cond (t := decide (x164 < (((l0).length : Int)))) (by kernel_rfl) (fun hb173 => ?_) (fun hb173 => ?_)
        · have hm := condT hb173 hm
          refine cW_skip ?_
          refine eX_then ?_
          refine cW_seq ?_
          refine cW_block ?_
          refine cW_seq ?_
          refine cW_drawnTail [] 30 (by kernel_rfl) (by kernel_rfl) (fun w209 hc210 => ?_)
          replace F166 := F166.chg hc210 Dj.nil
          replace hB := hB.inS hc210 inNil
          replace hZ := Nat.le_trans hZ hc210.size
          have hS := Chg.refl [] w209
          have Z211 := F166
          refine wH_take [0, 1] [1, 0] [(19, .int .i64 (x164)), (18, .slice A0 (l0).length cap0)] (by kernel_rfl) (qT (qT (qB (qT (qL (qB (qT (qT qZ)))))))) (by kernel_rfl) ?_
          obtain ⟨x212, hx213, hm⟩ := bindE hm
          refine wH_idx (i := 2) (d := 20) (T := 25) (A := A0) (n := (l0).length) (cap := cap0) (kd := .i64) (m := x164) (by kernel_rfl) (qT (qT (qB (qT (qL (qB (qT (qT qZ)))))))) (by kernel_rfl) (by kernel_rfl) sl25 (F166.is hx213) ?_
          refine wH_loadA (i := 3) (d := 21) (T := 34) (ad := (elA A0 2 (x164) 0)) (vs := [.int .i64 (x212.1), .int .i64 (x212.2)]) (by kernel_rfl) (qT (qT (qB (qT (qL (qB (qT (qT qZ)))))))) (by kernel_rfl) (by kernel_rfl) vt34 (fun W hW i u hu => Sl.cells_at (Z211.chg hW Dj.nil) hx213 0 hu (by rfl)) ?_
          refine wH_all [4] (by rfl) (by kernel_rfl) (by simp) ⟨⟨by kernel_rfl, ?_⟩, trivial⟩
          obtain ⟨y214, hy215, hm⟩ := bindE hm
          refine wS_calls (d := 22) (f := 76) (vs := [.agg #[.int .i64 (x212.1), .int .i64 (x212.2)]]) (by kernel_rfl) ent76 (c_spec_l01Point hy215) ?_
          rintro _ w216 ⟨rfl, hc217⟩
          replace F166 := F166.chg hc217 Dj.nil
          replace hB := hB.inS hc217 inNil
          have hSz := hS
          replace hS := hS.inS hc217 inNil
          replace hZ := Nat.le_trans hZ hc217.size
          refine ⟨.bool (y214), rfl, ?_⟩
          refine wS_end (by kernel_rfl) ?_
          refine eX_KH hS ?_
          refine wH_take [5, 6] [6, 5, 4, 3, 2, 1, 0] [(24, .bool (!y214)), (23, .bool (!y214))] (by kernel_rfl) (qT (qT (qB (qT (qL (qB (qT (qT qZ)))))))) (by kernel_rfl) ?_
          refine wH_bool (!y214) (fun hb218 => ?_) (fun hb218 => ?_)
          · have hm := condT hb218 hm
            rewrite [hb218]
            refine wH_take [7, 8, 9, 10, 11, 12, 13, 14, 15, 16, 17, 18, 19, 20, 21, 22, 23, 24, 25, 26, 27, 28, 29] [29, 28, 27, 26, 25, 24, 23, 22, 21, 20, 19, 18, 17, 16, 15, 14, 13, 12, 11, 10, 9, 8, 7, 6, 5, 4, 3, 2, 1, 0] [(47, undef), (46, undef), (45, undef), (44, undef), (43, undef), (42, undef), (41, undef), (40, undef), (39, undef), (38, undef), (37, undef), (36, undef), (35, .bool (true)), (34, .bool (true)), (33, undef), (32, undef), (31, undef), (30, undef), (29, undef), (28, undef), (27, undef), (26, undef), (25, undef)] (by kernel_rfl) (qT (qT (qB (qT (qL (qB (qT (qT qZ)))))))) (by kernel_rfl) ?_
            refine wH_done (by kernel_rfl) ?_
            refine eX_tail ?_
            refine wS_pure 4 [(51, .bool (true)), (50, undef), (49, undef), (48, undef)] (by kernel_rfl) ?_
            refine wS_end (by rfl) ?_
            refine eX_then ?_
            refine cW_prune [(0, .slice A0 (l0).length cap0), (3, .int .i64 (x164)), (51, .bool (true))] (by kernel_rfl) (by kernel_rfl) (fun a219 => ?_)
            refine cW_cond_t (by kernel_rfl) ?_
            refine cW_seq ?_
            refine cW_region ?_
            refine wS_pure 1 [(2, .bool (false))] (by kernel_rfl) ?_
            refine wS_end (by rfl) ?_
            refine eX_then ?_
            refine cW_ret ?_
            refine eX_block_ret ?_
            refine eX_then_ret ?_
            have hq : (some (Ctl.out (Sum.inr false)) : Option (Ctl (Int) (Sum (Unit) ((Bool))))) = some _ := hm
            replace hq := someE hq
            subst hq
            refine eX_outR hx172 (fun hr => ?_)
            subst hr
            refine eX_block_ret ?_
            refine eX_then_ret ?_
            refine eX_then_ret ?_
            have hq : (some false : Option ((Bool))) = some _ := hm169
            replace hq := someE hq
            subst hq
            refine eX_ret (vs := [.bool (false)]) [.tmp 2] (by rfl) ⟨by (show lkE _ _ _ = _); kernel_rfl, trivial⟩ ?_
            exact ⟨rfl, hB⟩
          · have hm := condF hb218 hm
            rewrite [hb218]
            refine wH_take [7, 8] [8, 7, 6, 5, 4, 3, 2, 1, 0] [(26, .int .i64 (x164)), (25, .slice A0 (l0).length cap0)] (by kernel_rfl) (qT (qT (qB (qT (qL (qB (qT (qT qZ)))))))) (by kernel_rfl) ?_
            obtain ⟨y220, hy221, hm⟩ := bindE hm
            refine wH_slice (k := 2) (enc := encII) (fp := fp0) (l := l0) (i := 9) (d := 27) (T := 25) (A := A0) (cap := cap0) (vlo := none) (vhi := some (.int .i64 (x164))) (lo := 0) (hi := x164) (n := 0) (by kernel_rfl) (qT (qT (qB (qT (qL (qB (qT (qT qZ)))))))) (by kernel_rfl) (by kernel_rfl) sl25 (Or.inr ⟨rfl, rfl⟩) (Or.inl rfl) K0 hy221 ?_
            intro A222 cap223 hcut224 hcap225
            have F226 := hcut224 _ F166
            have Fz227 := hcut224 _ Z211
            refine wH_take [10, 11] [11, 10, 9, 8, 7, 6, 5, 4, 3, 2, 1, 0] [(29, .int .i64 (x164)), (28, .slice A0 (l0).length cap0)] (by kernel_rfl) (qT (qT (qB (qT (qL (qB (qT (qT qZ)))))))) (by kernel_rfl) ?_
            obtain ⟨x229, hx230, hm⟩ := bindE hm
            refine wH_idx (i := 12) (d := 30) (T := 25) (A := A0) (n := (l0).length) (cap := cap0) (kd := .i64) (m := x164) (by kernel_rfl) (qT (qT (qB (qT (qL (qB (qT (qT qZ)))))))) (by kernel_rfl) (by kernel_rfl) sl25 (F166.is hx230) ?_
            refine wH_loadA (i := 13) (d := 31) (T := 34) (ad := (elA A0 2 (x164) 0)) (vs := [.int .i64 (x229.1), .int .i64 (x229.2)]) (by kernel_rfl) (qT (qT (qB (qT (qL (qB (qT (qT qZ)))))))) (by kernel_rfl) (by kernel_rfl) vt34 (fun W hW i u hu => Sl.cells_at (Z211.chg hW Dj.nil) hx230 0 hu (by rfl)) ?_
            refine wH_all [14] (by rfl) (by kernel_rfl) (by simp) ⟨⟨by kernel_rfl, ?_⟩, trivial⟩
            obtain ⟨y231, hy232, hm⟩ := bindE hm
            refine wS_calls (d := 32) (f := 95) (vs := [.slice A222 (y220).length cap223, .agg #[.int .i64 (x229.1), .int .i64 (x229.2)]]) (by kernel_rfl) ent95 (c_spec_l01Index hy232 F226) ?_
            rintro _ w233 ⟨rfl, hc234⟩
            replace F166 := F166.chg hc234 Dj.nil
            replace F226 := F226.chg hc234 Dj.nil
            replace hB := hB.inS hc234 inNil
            have hSz := hS
            replace hS := hS.inS hc234 inNil
            replace hZ := Nat.le_trans hZ hc234.size
            refine ⟨.int .i64 (y231), rfl, ?_⟩
            refine wS_end (by kernel_rfl) ?_
            refine eX_KH hS ?_
            refine wH_take [15, 16, 17] [17, 16, 15, 14, 13, 12, 11, 10, 9, 8, 7, 6, 5, 4, 3, 2, 1, 0] [(35, .bool (decide (y231 ≥ 0))), (34, .bool (decide (y231 ≥ 0))), (33, .bool (decide (y231 ≥ 0)))] (by kernel_rfl) (qT (qT (qB (qT (qL (qB (qT (qT qZ)))))))) (by kernel_rfl) ?_
            refine wH_bool (decide (y231 ≥ 0)) (fun hb235 => ?_) (fun hb235 => ?_)
            · have hm := condT hb235 hm
              rewrite [hb235]
              refine wH_take [18, 19, 20, 21, 22, 23, 24, 25, 26, 27, 28, 29] [29, 28, 27, 26, 25, 24, 23, 22, 21, 20, 19, 18, 17, 16, 15, 14, 13, 12, 11, 10, 9, 8, 7, 6, 5, 4, 3, 2, 1, 0] [(47, undef), (46, undef), (45, undef), (44, undef), (43, undef), (42, undef), (41, undef), (40, undef), (39, undef), (38, undef), (37, undef), (36, undef)] (by kernel_rfl) (qT (qT (qB (qT (qL (qB (qT (qT qZ)))))))) (by kernel_rfl) ?_
              refine wH_done (by kernel_rfl) ?_
              refine eX_tail ?_
              refine wS_pure 4 [(51, .bool (true)), (50, undef), (49, undef), (48, undef)] (by kernel_rfl) ?_
              refine wS_end (by rfl) ?_
              refine eX_then ?_
              refine cW_prune [(0, .slice A0 (l0).length cap0), (3, .int .i64 (x164)), (51, .bool (true))] (by kernel_rfl) (by kernel_rfl) (fun a236 => ?_)
              refine cW_cond_t (by kernel_rfl) ?_
              refine cW_seq ?_
              refine cW_region ?_
              refine wS_pure 1 [(2, .bool (false))] (by kernel_rfl) ?_
              refine wS_end (by rfl) ?_
              refine eX_then ?_
              refine cW_ret ?_
              refine eX_block_ret ?_
              refine eX_then_ret ?_
              have hq : (some (Ctl.out (Sum.inr false)) : Option (Ctl (Int) (Sum (Unit) ((Bool))))) = some _ := hm
              replace hq := someE hq
              subst hq
              refine eX_outR hx172 (fun hr => ?_)
              subst hr
              refine eX_block_ret ?_
              refine eX_then_ret ?_
              refine eX_then_ret ?_
              have hq : (some false : Option ((Bool))) = some _ := hm169
              replace hq := someE hq
              subst hq
              refine eX_ret (vs := [.bool (false)]) [.tmp 2] (by rfl) ⟨by (show lkE _ _ _ = _); kernel_rfl, trivial⟩ ?_
              exact ⟨rfl, hB⟩
            · have hm := condF hb235 hm
              rewrite [hb235]
              refine wH_take [18, 19, 20] [20, 19, 18, 17, 16, 15, 14, 13, 12, 11, 10, 9, 8, 7, 6, 5, 4, 3, 2, 1, 0] [(38, .bool (decide (x164 > 0))), (37, .bool (decide (x164 > 0))), (36, .int .i64 (x164))] (by kernel_rfl) (qT (qT (qB (qT (qL (qB (qT (qT qZ)))))))) (by kernel_rfl) ?_
              refine wH_bool (decide (x164 > 0)) (fun hb237 => ?_) (fun hb237 => ?_)
              · have hm := condT hb237 hm
                rewrite [hb237]
                refine wH_take [21, 22, 23] [23, 22, 21, 20, 19, 18, 17, 16, 15, 14, 13, 12, 11, 10, 9, 8, 7, 6, 5, 4, 3, 2, 1, 0] [(41, .int .i64 (wr (x164 - 1))), (40, .int .i64 (x164)), (39, .slice A0 (l0).length cap0)] (by kernel_rfl) (qT (qT (qB (qT (qL (qB (qT (qT qZ)))))))) (by kernel_rfl) ?_
                obtain ⟨x238, hx239, hm⟩ := bindE hm
                refine wH_idx (i := 24) (d := 42) (T := 25) (A := A0) (n := (l0).length) (cap := cap0) (kd := .i64) (m := wr (x164 - 1)) (by kernel_rfl) (qT (qT (qB (qT (qL (qB (qT (qT qZ)))))))) (by kernel_rfl) (by kernel_rfl) sl25 (F166.is hx239) ?_
                refine wH_loadA (i := 25) (d := 43) (T := 34) (ad := (elA A0 2 (wr (x164 - 1)) 0)) (vs := [.int .i64 (x238.1), .int .i64 (x238.2)]) (by kernel_rfl) (qT (qT (qB (qT (qL (qB (qT (qT qZ)))))))) (by kernel_rfl) (by kernel_rfl) vt34 (fun W hW i u hu => Sl.cells_at (Z211.chg hW Dj.nil) hx239 0 hu (by rfl)) ?_
                refine wH_take [26, 27] [27, 26, 25, 24, 23, 22, 21, 20, 19, 18, 17, 16, 15, 14, 13, 12, 11, 10, 9, 8, 7, 6, 5, 4, 3, 2, 1, 0] [(45, .int .i64 (x164)), (44, .slice A0 (l0).length cap0)] (by kernel_rfl) (qT (qT (qB (qT (qL (qB (qT (qT qZ)))))))) (by kernel_rfl) ?_
                obtain ⟨x240, hx241, hm⟩ := bindE hm
                refine wH_idx (i := 28) (d := 46) (T := 25) (A := A0) (n := (l0).length) (cap := cap0) (kd := .i64) (m := x164) (by kernel_rfl) (qT (qT (qB (qT (qL (qB (qT (qT qZ)))))))) (by kernel_rfl) (by kernel_rfl) sl25 (F166.is hx241) ?_
                refine wH_loadA (i := 29) (d := 47) (T := 34) (ad := (elA A0 2 (x164) 0)) (vs := [.int .i64 (x240.1), .int .i64 (x240.2)]) (by kernel_rfl) (qT (qT (qB (qT (qL (qB (qT (qT qZ)))))))) (by kernel_rfl) (by kernel_rfl) vt34 (fun W hW i u hu => Sl.cells_at (Z211.chg hW Dj.nil) hx241 0 hu (by rfl)) ?_
                refine wH_done (by kernel_rfl) ?_
                refine eX_tail ?_
                obtain ⟨y242, hy243, hm⟩ := bindE hm
                refine wS_calls (d := 48) (f := 84) (vs := [.agg #[.int .i64 (x238.1), .int .i64 (x238.2)], .agg #[.int .i64 (x240.1), .int .i64 (x240.2)]]) (by kernel_rfl) ent84 (c_spec_l01Far hy243) ?_
                rintro _ w244 ⟨rfl, hc245⟩
                replace F166 := F166.chg hc245 Dj.nil
                replace F226 := F226.chg hc245 Dj.nil
                replace hB := hB.inS hc245 inNil
                replace hZ := Nat.le_trans hZ hc245.size
                refine ⟨.int .i64 (y242), rfl, ?_⟩
                refine wS_pure 3 [(51, .bool (y242 != 1)), (50, .bool (y242 != 1)), (49, .bool (y242 != 1))] (by kernel_rfl) ?_
                refine wS_end (by rfl) ?_
                refine eX_then ?_
                refine cW_prune [(0, .slice A0 (l0).length cap0), (3, .int .i64 (x164)), (51, .bool (y242 != 1))] (by kernel_rfl) (by kernel_rfl) (fun a246 => ?_)
                refine cW_cond (t := y242 != 1) (by kernel_rfl) (fun hb247 => ?_) (fun hb247 => ?_)
                · have hm := condT hb247 hm
                  refine cW_seq ?_
                  refine cW_region ?_
                  refine wS_pure 1 [(2, .bool (false))] (by kernel_rfl) ?_
                  refine wS_end (by rfl) ?_
                  refine eX_then ?_
                  refine cW_ret ?_
                  refine eX_block_ret ?_
                  refine eX_then_ret ?_
                  have hq : (some (Ctl.out (Sum.inr false)) : Option (Ctl (Int) (Sum (Unit) ((Bool))))) = some _ := hm
                  replace hq := someE hq
                  subst hq
                  refine eX_outR hx172 (fun hr => ?_)
                  subst hr
                  refine eX_block_ret ?_
                  refine eX_then_ret ?_
                  refine eX_then_ret ?_
                  have hq : (some false : Option ((Bool))) = some _ := hm169
                  replace hq := someE hq
                  subst hq
                  refine eX_ret (vs := [.bool (false)]) [.tmp 2] (by rfl) ⟨by (show lkE _ _ _ = _); kernel_rfl, trivial⟩ ?_
                  exact ⟨rfl, hB⟩
                · have hm := condF hb247 hm
                  refine cW_skip ?_
                  refine eX_block ?_
                  refine eX_then ?_
                  refine cW_region ?_
                  refine wS_pure 3 [(3, .int .i64 (wr (x164 + 1))), (17, .int .i64 (wr (x164 + 1))), (16, .int .i64 (x164))] (by kernel_rfl) ?_
                  refine wS_end (by rfl) ?_
                  have hq : (some (Ctl.next (wr (x164 + 1))) : Option (Ctl (Int) (Sum (Unit) ((Bool))))) = some _ := hm
                  replace hq := someE hq
                  subst hq
                  exact eX_next hx172 (fun hst => ⟨wr (x164 + 1), rfl, Fr.of hst (by kernel_rfl), F166, hB, hZ⟩)
              · have hm := condF hb237 hm
                rewrite [hb237]
                refine wH_take [21, 22, 23, 24, 25, 26, 27, 28, 29] [29, 28, 27, 26, 25, 24, 23, 22, 21, 20, 19, 18, 17, 16, 15, 14, 13, 12, 11, 10, 9, 8, 7, 6, 5, 4, 3, 2, 1, 0] [(47, undef), (46, undef), (45, undef), (44, undef), (43, undef), (42, undef), (41, undef), (40, undef), (39, undef)] (by kernel_rfl) (qT (qT (qB (qT (qL (qB (qT (qT qZ)))))))) (by kernel_rfl) ?_
                refine wH_done (by kernel_rfl) ?_
                refine eX_tail ?_
                refine wS_pure 4 [(51, .bool (false)), (50, .bool (false)), (49, undef), (48, undef)] (by kernel_rfl) ?_
                refine wS_end (by rfl) ?_
                refine eX_then ?_
                refine cW_prune [(0, .slice A0 (l0).length cap0), (3, .int .i64 (x164)), (51, .bool (false))] (by kernel_rfl) (by kernel_rfl) (fun a248 => ?_)
                refine cW_cond_f (by kernel_rfl) ?_
                refine cW_skip ?_
                refine eX_block ?_
                refine eX_then ?_
                refine cW_region ?_
                refine wS_pure 3 [(3, .int .i64 (wr (x164 + 1))), (17, .int .i64 (wr (x164 + 1))), (16, .int .i64 (x164))] (by kernel_rfl) ?_
                refine wS_end (by rfl) ?_
                have hq : (some (Ctl.next (wr (x164 + 1))) : Option (Ctl (Int) (Sum (Unit) ((Bool))))) = some _ := hm
                replace hq := someE hq
                subst hq
                exact eX_next hx172 (fun hst => ⟨wr (x164 + 1), rfl, Fr.of hst (by kernel_rfl), F166, hB, hZ⟩)
        · have hm := condF hb173 hm
          refine cW_exit ?_
          refine eX_then_exit ?_
          have hq : (some (Ctl.out (Sum.inl (()))) : Option (Ctl (Int) (Sum (Unit) ((Bool))))) = some _ := hm
          replace hq := someE hq
          subst hq
          refine eX_outX hx172 (fun hr249 => ?_)
          replace hr249 := hr249.symm
          subst hr249
          refine eX_block_hit ?_
          exact eX_J (fun hst => ⟨rfl, Fr.of hst (by kernel_rfl), hB, hZ⟩)
      · rintro a' w161 ⟨hJ, hF162, hB, hZ⟩
        subst hJ
        refine Fr.goX hF162 (by kernel_rfl) ?_
        refine eX_then ?_
        refine cW_seq ?_
        refine cW_region ?_
        refine wS_pure 1 [(2, .bool (true))] (by kernel_rfl) ?_
        refine wS_end (by rfl) ?_
        refine eX_then ?_
        refine cW_ret ?_
        have hq : (some true : Option ((Bool))) = some _ := hm
        replace hq := someE hq
        subst hq
        refine eX_ret (vs := [.bool (true)]) [.tmp 2] (by rfl) ⟨by (show lkE _ _ _ = _); kernel_rfl, trivial⟩ ?_
        exact ⟨rfl, hB⟩

set_option maxRecDepth 100000 in
/-- laws.toPoint -/
theorem c_laws_toPoint {w0 : World} {p0_0 : Int} {p0_1 : Int} {r : (Int × Int)} (hm : m_laws_toPoint p0_0 p0_1 = some r)  :
    Calls Try.prog 28 #[.agg #[.int .i64 (p0_0), .int .i64 (p0_1)]] w0 fun e w' => e = .returned (.agg #[.int .i64 (r.1), .int .i64 (r.2)]) ∧ Chg [] w0 w' := by
  have hB : Chg [] w0 w0 := Chg.refl _ _
  have hZ := Nat.le_refl w0.heap.size
  unfold m_laws_toPoint at hm
  refine enterE (N := 11) Try.func28 (by rfl) Try.ntmps28 (by simp) [(0, .agg #[.int .i64 (p0_0), .int .i64 (p0_1)])] (by rfl) (by kernel_rfl) (fun a => ?_)
  refine cW_seq ?_
  refine cW_region ?_
  refine wS_box (d := 1) (T := 32) (x := .agg #[.int .i64 (p0_0), .int .i64 (p0_1)]) (by kernel_rfl) ?_
  intro b1 w2 G3 F4 hc5
  replace F4 : Cl w2 b1 32 [.int .i64 (p0_0), .int .i64 (p0_1)] := F4
  replace hB := hB.inS hc5 inNil
  replace G3 := Nat.le_trans hZ G3
  replace hZ := Nat.le_trans hZ hc5.size
  refine wS_alloc (d := 2) (T := 34) (z := .agg #[.int .i64 (0), .int .i64 (0)]) (by kernel_rfl) (by kernel_rfl) ?_
  intro b7 w8 G9 F10 hc11
  replace F10 : Cl w8 b7 34 [.int .i64 (0), .int .i64 (0)] := F10
  have D13 : Dj [b1] [b7] := Dj.of (lt1 F4.lt) (low1 G9)
  replace F4 := F4.chg hc11 notNil
  replace hB := hB.inS hc11 inNil
  replace G9 := Nat.le_trans hZ G9
  replace hZ := Nat.le_trans hZ hc11.size
  refine wS_end (by rfl) ?_
  refine eX_then ?_
  refine cW_seq ?_
  refine cW_region ?_
  refine wS_alloc (d := 3) (T := 34) (z := .agg #[.int .i64 (0), .int .i64 (0)]) (by kernel_rfl) (by kernel_rfl) ?_
  intro b14 w15 G16 F17 hc18
  replace F17 : Cl w15 b14 34 [.int .i64 (0), .int .i64 (0)] := F17
  have D20 : Dj [b1] [b14] := Dj.of (lt1 F4.lt) (low1 G16)
  have D21 : Dj [b7] [b14] := Dj.of (lt1 F10.lt) (low1 G16)
  replace F4 := F4.chg hc18 notNil
  replace F10 := F10.chg hc18 notNil
  replace hB := hB.inS hc18 inNil
  replace G16 := Nat.le_trans hZ G16
  replace hZ := Nat.le_trans hZ hc18.size
  refine wS_end (by rfl) ?_
  refine eX_then ?_
  refine cW_seq ?_
  refine cW_region ?_
  refine wS_pure 1 [(4, .pointer (some ⟨b1, 0, none⟩))] (by kernel_rfl) ?_
  refine wS_load1 (d := 5) (T := 2) (ad := ⟨b1, 0, none⟩) (v := .int .i64 (p0_0)) (by kernel_rfl) vt2 ((F4).cell 0) ?_
  refine wS_pure 1 [(6, .pointer (some ⟨b14, 0, none⟩))] (by kernel_rfl) ?_
  refine wS_store (T := 2) (g := b14) (o := 0) (ad := ⟨b14, 0, none⟩) (v := .int .i64 (p0_0)) (vs := [.int .i64 (p0_0)]) (by kernel_rfl) (by rfl) sz2 (by rfl) (by rfl) F17 (by simp only [List.length_cons, List.length_nil]; omega) ?_
  intro w22 F23 hc24
  replace F4 := F4.chg hc24 (dj1 D20)
  replace F10 := F10.chg hc24 (dj1 D21)
  replace hB := hB.inS hc24 (inLow (low1 G16))
  replace hZ := Nat.le_trans hZ hc24.size
  replace F23 : Cl w22 b14 34 [.int .i64 (p0_0), .int .i64 (0)] := F23
  clear F17
  refine wS_end (by rfl) ?_
  refine eX_then ?_
  refine cW_seq ?_
  refine cW_region ?_
  refine wS_pure 1 [(7, .pointer (some ⟨b1, 1, none⟩))] (by kernel_rfl) ?_
  refine wS_load1 (d := 8) (T := 2) (ad := ⟨b1, 1, none⟩) (v := .int .i64 (p0_1)) (by kernel_rfl) vt2 ((F4).cell 1) ?_
  refine wS_pure 1 [(9, .pointer (some ⟨b14, 1, none⟩))] (by kernel_rfl) ?_
  refine wS_store (T := 2) (g := b14) (o := 1) (ad := ⟨b14, 1, none⟩) (v := .int .i64 (p0_1)) (vs := [.int .i64 (p0_1)]) (by kernel_rfl) (by rfl) sz2 (by rfl) (by rfl) F23 (by simp only [List.length_cons, List.length_nil]; omega) ?_
  intro w25 F26 hc27
  replace F4 := F4.chg hc27 (dj1 D20)
  replace F10 := F10.chg hc27 (dj1 D21)
  replace hB := hB.inS hc27 (inLow (low1 G16))
  replace hZ := Nat.le_trans hZ hc27.size
  replace F26 : Cl w25 b14 34 [.int .i64 (p0_0), .int .i64 (p0_1)] := F26
  clear F23
  refine wS_end (by rfl) ?_
  refine eX_then ?_
  refine cW_seq ?_
  refine cW_region ?_
  refine wS_loadA (d := 10) (T := 34) (ad := ⟨b14, 0, none⟩) (vs := [.int .i64 (p0_0), .int .i64 (p0_1)]) (by kernel_rfl) vt34 (fun i u hu => box_cells F26 0 hu (by rfl)) ?_
  refine wS_store (T := 34) (g := b7) (o := 0) (ad := ⟨b7, 0, none⟩) (v := .agg #[.int .i64 (p0_0), .int .i64 (p0_1)]) (vs := [.int .i64 (p0_0), .int .i64 (p0_1)]) (by kernel_rfl) (by rfl) sz34 (by rfl) (by rfl) F10 (by simp only [List.length_cons, List.length_nil]; omega) ?_
  intro w28 F29 hc30
  replace F4 := F4.chg hc30 (dj1 D13)
  replace F26 := F26.chg hc30 (dj1 (D21).symm)
  replace hB := hB.inS hc30 (inLow (low1 G9))
  replace hZ := Nat.le_trans hZ hc30.size
  replace F29 : Cl w28 b7 34 [.int .i64 (p0_0), .int .i64 (p0_1)] := F29
  clear F10
  refine wS_end (by rfl) ?_
  refine eX_then ?_
  refine cW_ret ?_
  have hq : (some ((p0_0, p0_1)) : Option ((Int × Int))) = some _ := hm
  replace hq := someE hq
  subst hq
  refine eX_ret (vs := [.agg #[.int .i64 (p0_0), .int .i64 (p0_1)]]) [.cell 2 34] (by rfl) ⟨⟨⟨b7, 0, none⟩, by kernel_rfl, run_loadVarA (vs := [.int .i64 (p0_0), .int .i64 (p0_1)]) vt34 (fun i u hu => by exact box_cells F29 0 hu (by rfl))⟩, trivial⟩ ?_
  exact ⟨rfl, hB⟩

set_option maxRecDepth 100000 in
/-- laws.toPointS -/
theorem c_laws_toPointS {w0 : World} {l0 : List (Int × Int)} {A0 : Option Addr} {cap0 : Nat} {fp0 : List Nat} {r : (List (Int × Int))} (hm : m_laws_toPointS l0 = some r) (F0 : Sl 2 encII w0 fp0 A0 l0) :
    Calls Try.prog 22 #[.slice A0 (l0).length cap0] w0 fun e w' => ∃ A100 cap100 fp100, e = .returned (.slice A100 (r).length cap100) ∧ Ow 2 encII 34 w' fp100 A100 cap100 r ∧ (∀ x ∈ fp100, w0.heap.size ≤ x) ∧ Chg [] w0 w' := by
  have L0 := F0.low
  have hB : Chg [] w0 w0 := Chg.refl _ _
  have hZ := Nat.le_refl w0.heap.size
  unfold m_laws_toPointS at hm
  refine enterE (N := 23) Try.func22 (by rfl) Try.ntmps22 (by simp) [(0, .slice A0 (l0).length cap0)] (by rfl) (by kernel_rfl) (fun a => ?_)
  refine cW_seq ?_
  refine cW_region ?_
  refine wS_pure 1 [(2, .slice none 0 0)] (by kernel_rfl) ?_
  refine wS_end (by rfl) ?_
  refine eX_then ?_
  refine cW_seq ?_
  refine cW_region ?_
  refine wS_pure 2 [(6, .int .i64 (((l0).length : Int))), (5, .slice A0 (l0).length cap0)] (by kernel_rfl) ?_
  obtain ⟨_, hk2, hm⟩ := bindE hm
  replace hk2 := mkE hk2
  refine wS_make (enc := encII) (x0 := ((0, 0) : Int × Int)) (d := 7) (t := 25) (T := 34) (k1 := .i64) (k2 := .i64) (m := ((l0).length : Int)) (by kernel_rfl) el25 encII_ok (by rfl) hk2.1 hk2.2 ?_
  intro b3 w4 G5 F6 hc7
  replace F0 := F0.chg hc7 Dj.nil
  replace hB := hB.inS hc7 inNil
  replace G5 := Nat.le_trans hZ G5
  replace G5 := low1 G5
  replace hZ := Nat.le_trans hZ hc7.size
  refine wS_pure 1 [(3, .slice (some ⟨b3, 0, none⟩) (List.replicate (Int.toNat (((l0).length : Int))) (((0, 0) : Int × Int))).length (Int.toNat (((l0).length : Int))))] (by kernel_rfl) ?_
  refine wS_end (by rfl) ?_
  refine eX_then ?_
  refine cW_seq ?_
  refine cW_seq ?_
  refine cW_region ?_
  refine wS_pure 1 [(4, .int .i64 (0))] (by kernel_rfl) ?_
  refine wS_end (by rfl) ?_
  refine eX_then ?_
  obtain ⟨r51, hr52, hm⟩ := bindE hm
  have hm53 := hm
  refine cW_cut (fun a' w' => ∃ l42 : List (Int × Int), l42 = r51 ∧ Fr 23 [(3, .slice (some ⟨b3, 0, none⟩) (l42).length (Int.toNat (((l0).length : Int))))] a' ∧ Ow 2 encII 34 w' [b3] (some ⟨b3, 0, none⟩) (Int.toNat (((l0).length : Int))) l42 ∧ Chg [] w0 w' ∧ w0.heap.size ≤ w'.heap.size) ?_ ?_
  · refine cW_block ?_
    refine cW_loop _ (fun (s54 : Int × (List (Int × Int))) a' w' => ∃ x46 : Int, ∃ l47 : List (Int × Int), (x46, l47) = s54 ∧ Fr 23 [(0, .slice A0 (l0).length cap0), (3, .slice (some ⟨b3, 0, none⟩) (l47).length (Int.toNat (((l0).length : Int)))), (4, .int .i64 (x46))] a' ∧ Sl 2 encII w' fp0 A0 l0 ∧ Ow 2 encII 34 w' [b3] (some ⟨b3, 0, none⟩) (Int.toNat (((l0).length : Int))) l47 ∧ Chg [] w0 w' ∧ w0.heap.size ≤ w'.heap.size) hr52 (fun hst => ⟨0, List.replicate (Int.toNat (((l0).length : Int))) (((0, 0) : Int × Int)), rfl, Fr.of hst (by kernel_rfl), F0, F6, hB, hZ⟩) ?_
    rintro _ c55 a' w45 ⟨x46, l47, rfl, hF48, F49, F50, hB, hZ⟩ hx56
    refine Fr.goOn hF48 (by kernel_rfl) ?_
    have hm := hx56
    unfold m_laws_toPointS_s1 at hm
    refine cW_seq ?_
    refine cW_seq ?_
    refine cW_region ?_
    refine wS_pure 4 [(11, .bool (decide (x46 < (((l0).length : Int))))), (10, .int .i64 (((l0).length : Int))), (9, .slice A0 (l0).length cap0), (8, .int .i64 (x46))] (by kernel_rfl) ?_
    refine wS_end (by rfl) ?_
    refine eX_then ?_
    refine cW_cond (t := decide (x46 < (((l0).length : Int)))) (by kernel_rfl) (fun hb57 => ?_) (fun hb57 => ?_)
    · have hm := condT hb57 hm
      refine cW_skip ?_
      refine eX_then ?_
      refine cW_seq ?_
      refine cW_block ?_
      refine cW_region ?_
      refine wS_pure 4 [(17, .int .i64 (x46)), (16, .slice A0 (l0).length cap0), (15, .int .i64 (x46)), (14, .slice (some ⟨b3, 0, none⟩) (l47).length (Int.toNat (((l0).length : Int))))] (by kernel_rfl) ?_
      obtain ⟨x58, hx59, hm⟩ := bindE hm
      refine wS_idx (d := 18) (T := 22) (A := A0) (n := (l0).length) (cap := cap0) (kd := .i64) (m := x46) (by kernel_rfl) sl22 (F49.is hx59) ?_
      refine wS_loadA (d := 19) (T := 32) (ad := (elA A0 2 (x46) 0)) (vs := [.int .i64 (x58.1), .int .i64 (x58.2)]) (by kernel_rfl) vt32 (fun i u hu => Sl.cells_at F49 hx59 0 hu (by rfl)) ?_
      obtain ⟨y60, hy61, hm⟩ := bindE hm
      refine wS_calls (d := 20) (f := 28) (vs := [.agg #[.int .i64 (x58.1), .int .i64 (x58.2)]]) (by kernel_rfl) ent28 (c_laws_toPoint hy61) ?_
      rintro _ w62 ⟨rfl, hc63⟩
      replace F49 := F49.chg hc63 Dj.nil
      replace F50 := F50.chg hc63 Dj.nil
      replace hB := hB.inS hc63 inNil
      replace hZ := Nat.le_trans hZ hc63.size
      refine ⟨.agg #[.int .i64 (y60.1), .int .i64 (y60.2)], rfl, ?_⟩
      obtain ⟨x64, hx65, hm⟩ := bindE hm
      refine wS_idx (d := 21) (T := 25) (A := (some ⟨b3, 0, none⟩)) (n := (l47).length) (cap := (Int.toNat (((l0).length : Int)))) (kd := .i64) (m := x46) (by kernel_rfl) sl25 ((F50.sl encII_ok).is hx65) ?_
      refine wS_storeEl (x := x64) ((y60.1, y60.2)) (T := 34) (U := 34) (cap := (Int.toNat (((l0).length : Int)))) (j := 0) (A := (some ⟨b3, 0, none⟩)) (v := .agg #[.int .i64 (y60.1), .int .i64 (y60.2)]) (vs := [.int .i64 (y60.1), .int .i64 (y60.2)]) (m := x46) (by kernel_rfl) (by rfl) sz34 (by rfl) encII_ok F50 hx65 (by simp only [List.length_cons, List.length_nil]; omega) (by rfl) ?_
      intro w66 F67 hc68
      replace F49 := F49.chg hc68 (Dj.of L0 G5)
      replace hB := hB.inS hc68 (inLow G5)
      replace hZ := Nat.le_trans hZ hc68.size
      clear F50
      rewrite [show (l47).length = (l47.set (Int.toNat x46) ((y60.1, y60.2))).length from (List.length_set ..).symm]
      refine wS_end (by rfl) ?_
      refine eX_block ?_
      refine eX_then ?_
      refine cW_region ?_
      refine wS_pure 3 [(4, .int .i64 (wr (x46 + 1))), (13, .int .i64 (wr (x46 + 1))), (12, .int .i64 (x46))] (by kernel_rfl) ?_
      refine wS_end (by rfl) ?_
      have hq : (some (Ctl.next ((wr (x46 + 1), l47.set (Int.toNat x46) ((y60.1, y60.2))))) : Option (Ctl (Int × (List (Int × Int))) ((List (Int × Int))))) = some _ := hm
      replace hq := someE hq
      subst hq
      exact eX_next hx56 (fun hst => ⟨wr (x46 + 1), l47.set (Int.toNat x46) ((y60.1, y60.2)), rfl, Fr.of hst (by kernel_rfl), F49, F67, hB, hZ⟩)
    · have hm := condF hb57 hm
      refine cW_exit ?_
      refine eX_then_exit ?_
      have hq : (some (Ctl.out l47) : Option (Ctl (Int × (List (Int × Int))) ((List (Int × Int))))) = some _ := hm
      replace hq := someE hq
      subst hq
      refine eX_outX hx56 (fun hr69 => ?_)
      replace hr69 := hr69.symm
      subst hr69
      refine eX_block_hit ?_
      exact eX_J (fun hst => ⟨l47, rfl, Fr.of hst (by kernel_rfl), F50, hB, hZ⟩)
  · rintro a' w41 ⟨l42, hJ, hF43, F44, hB, hZ⟩
    subst hJ
    refine Fr.goX hF43 (by kernel_rfl) ?_
    refine eX_then ?_
    refine cW_seq ?_
    refine cW_region ?_
    refine wS_pure 2 [(2, .slice (some ⟨b3, 0, none⟩) (l42).length (Int.toNat (((l0).length : Int)))), (22, .slice (some ⟨b3, 0, none⟩) (l42).length (Int.toNat (((l0).length : Int))))] (by kernel_rfl) ?_
    refine wS_end (by rfl) ?_
    refine eX_then ?_
    refine cW_ret ?_
    have hq : (some l42 : Option ((List (Int × Int)))) = some _ := hm
    replace hq := someE hq
    subst hq
    refine eX_ret (vs := [.slice (some ⟨b3, 0, none⟩) (l42).length (Int.toNat (((l0).length : Int)))]) [.tmp 2] (by rfl) ⟨by (show lkE _ _ _ = _); kernel_rfl, trivial⟩ ?_
    exact ⟨(some ⟨b3, 0, none⟩), (Int.toNat (((l0).length : Int))), [b3], rfl, F44, G5, hB⟩

set_option maxRecDepth 100000 in
/-- impl.in -/
theorem c_impl_in {w0 : World} {p0 : Int} {p1 : Int} {p2 : Int} {r : (Bool)} (hm : m_impl_in p0 p1 p2 = some r)  :
    Calls Try.prog 123 #[.int .i64 (p0), .int .i64 (p1), .int .i64 (p2)] w0 fun e w' => e = .returned (.bool (r)) ∧ Chg [] w0 w' := by
  have hB : Chg [] w0 w0 := Chg.refl _ _
  have hZ := Nat.le_refl w0.heap.size
  unfold m_impl_in at hm
  refine enterE (N := 15) Try.func123 (by rfl) Try.ntmps123 (by simp) [(0, .int .i64 (p0)), (1, .int .i64 (p1)), (2, .int .i64 (p2))] (by rfl) (by kernel_rfl) (fun a => ?_)
  refine cW_seq ?_
  refine cW_region ?_
  refine wS_pure 1 [(6, .bool (false))] (by kernel_rfl) ?_
  refine wS_end (by rfl) ?_
  refine eX_then ?_
  refine cW_seq ?_
  refine cW_region ?_
  refine wS_pure 4 [(10, .bool (decide (p0 ≥ p1))), (9, .bool (decide (p0 ≥ p1))), (8, .int .i64 (p1)), (7, .int .i64 (p0))] (by kernel_rfl) ?_
  refine wS_bool (decide (p0 ≥ p1)) (fun hb1 => ?_) (fun hb1 => ?_)
  · have hm := condT hb1 hm
    rewrite [hb1]
    refine wS_pure 5 [(6, .bool (decide (p0 ≤ p2))), (14, .bool (decide (p0 ≤ p2))), (13, .bool (decide (p0 ≤ p2))), (12, .int .i64 (p2)), (11, .int .i64 (p0))] (by kernel_rfl) ?_
    refine wS_end (by rfl) ?_
    refine eX_then ?_
    refine cW_ret ?_
    have hq : (some (decide (p0 ≤ p2)) : Option ((Bool))) = some _ := hm
    replace hq := someE hq
    subst hq
    refine eX_ret (vs := [.bool (decide (p0 ≤ p2))]) [.tmp 6] (by rfl) ⟨by (show lkE _ _ _ = _); kernel_rfl, trivial⟩ ?_
    exact ⟨rfl, hB⟩
  · have hm := condF hb1 hm
    rewrite [hb1]
    refine wS_pure 5 [(6, .bool (false)), (14, .bool (false)), (13, undef), (12, undef), (11, undef)] (by kernel_rfl) ?_
    refine wS_end (by rfl) ?_
    refine eX_then ?_
    refine cW_ret ?_
    have hq : (some false : Option ((Bool))) = some _ := hm
    replace hq := someE hq
    subst hq
    refine eX_ret (vs := [.bool (false)]) [.tmp 6] (by rfl) ⟨by (show lkE _ _ _ = _); kernel_rfl, trivial⟩ ?_
    exact ⟨rfl, hB⟩

set_option maxRecDepth 100000 in
/-- impl.IsPoint -/
theorem c_impl_IsPoint {w0 : World} {p0_0 : Int} {p0_1 : Int} {r : (Bool)} (hm : m_impl_IsPoint p0_0 p0_1 = some r)  :
    Calls Try.prog 79 #[.agg #[.int .i64 (p0_0), .int .i64 (p0_1)]] w0 fun e w' => e = .returned (.bool (r)) ∧ Chg [] w0 w' := by
  have hB : Chg [] w0 w0 := Chg.refl _ _
  have hZ := Nat.le_refl w0.heap.size
  unfold m_impl_IsPoint at hm
  refine enterE (N := 11) Try.func79 (by rfl) Try.ntmps79 (by simp) [(0, .agg #[.int .i64 (p0_0), .int .i64 (p0_1)])] (by rfl) (by kernel_rfl) (fun a => ?_)
  refine cW_seq ?_
  refine cW_region ?_
  refine wS_box (d := 1) (T := 34) (x := .agg #[.int .i64 (p0_0), .int .i64 (p0_1)]) (by kernel_rfl) ?_
  intro b1 w2 G3 F4 hc5
  replace F4 : Cl w2 b1 34 [.int .i64 (p0_0), .int .i64 (p0_1)] := F4
  replace hB := hB.inS hc5 inNil
  replace G3 := Nat.le_trans hZ G3
  replace hZ := Nat.le_trans hZ hc5.size
  refine wS_pure 1 [(2, .bool (false))] (by kernel_rfl) ?_
  refine wS_end (by rfl) ?_
  refine eX_then ?_
  refine cW_seq ?_
  refine cW_region ?_
  refine wS_pure 1 [(3, .pointer (some ⟨b1, 0, none⟩))] (by kernel_rfl) ?_
  refine wS_load1 (d := 4) (T := 2) (ad := ⟨b1, 0, none⟩) (v := .int .i64 (p0_0)) (by kernel_rfl) vt2 ((F4).cell 0) ?_
  obtain ⟨y7, hy8, hm⟩ := bindE hm
  refine wS_calls (d := 5) (f := 123) (vs := [.int .i64 (p0_0), .int .i64 (0), .int .i64 (99)]) (by kernel_rfl) ent123 (c_impl_in hy8) ?_
  rintro _ w9 ⟨rfl, hc10⟩
  replace F4 := F4.chg hc10 notNil
  replace hB := hB.inS hc10 inNil
  replace hZ := Nat.le_trans hZ hc10.size
  refine ⟨.bool (y7), rfl, ?_⟩
  refine wS_pure 1 [(6, .bool (y7))] (by kernel_rfl) ?_
  refine wS_bool y7 (fun hb11 => ?_) (fun hb11 => ?_)
  · have hm := condT hb11 hm
    rewrite [hb11]
    refine wS_pure 1 [(7, .pointer (some ⟨b1, 1, none⟩))] (by kernel_rfl) ?_
    refine wS_load1 (d := 8) (T := 2) (ad := ⟨b1, 1, none⟩) (v := .int .i64 (p0_1)) (by kernel_rfl) vt2 ((F4).cell 1) ?_
    obtain ⟨y12, hy13, hm⟩ := bindE hm
    refine wS_calls (d := 9) (f := 123) (vs := [.int .i64 (p0_1), .int .i64 (0), .int .i64 (99)]) (by kernel_rfl) ent123 (c_impl_in hy13) ?_
    rintro _ w14 ⟨rfl, hc15⟩
    replace F4 := F4.chg hc15 notNil
    replace hB := hB.inS hc15 inNil
    replace hZ := Nat.le_trans hZ hc15.size
    refine ⟨.bool (y12), rfl, ?_⟩
    refine wS_pure 2 [(2, .bool (y12)), (10, .bool (y12))] (by kernel_rfl) ?_
    refine wS_end (by rfl) ?_
    refine eX_then ?_
    refine cW_ret ?_
    have hq : (some y12 : Option ((Bool))) = some _ := hm
    replace hq := someE hq
    subst hq
    refine eX_ret (vs := [.bool (y12)]) [.tmp 2] (by rfl) ⟨by (show lkE _ _ _ = _); kernel_rfl, trivial⟩ ?_
    exact ⟨rfl, hB⟩
  · have hm := condF hb11 hm
    rewrite [hb11]
    refine wS_pure 5 [(2, .bool (false)), (10, .bool (false)), (9, undef), (8, undef), (7, undef)] (by kernel_rfl) ?_
    refine wS_end (by rfl) ?_
    refine eX_then ?_
    refine cW_ret ?_
    have hq : (some false : Option ((Bool))) = some _ := hm
    replace hq := someE hq
    subst hq
    refine eX_ret (vs := [.bool (false)]) [.tmp 2] (by rfl) ⟨by (show lkE _ _ _ = _); kernel_rfl, trivial⟩ ?_
    exact ⟨rfl, hB⟩

set_option maxRecDepth 100000 in
/-- impl.noPoint -/
theorem c_impl_noPoint {w0 : World} {p0_0 : Int} {p0_1 : Int} {r : (Bool)} (hm : m_impl_noPoint p0_0 p0_1 = some r)  :
    Calls Try.prog 72 #[.agg #[.int .i64 (p0_0), .int .i64 (p0_1)]] w0 fun e w' => e = .returned (.bool (r)) ∧ Chg [] w0 w' := by
  have hB : Chg [] w0 w0 := Chg.refl _ _
  have hZ := Nat.le_refl w0.heap.size
  unfold m_impl_noPoint at hm
  refine enterE (N := 6) Try.func72 (by rfl) Try.ntmps72 (by simp) [(0, .agg #[.int .i64 (p0_0), .int .i64 (p0_1)])] (by rfl) (by kernel_rfl) (fun a => ?_)
  refine cW_seq ?_
  refine cW_region ?_
  refine wS_box (d := 1) (T := 34) (x := .agg #[.int .i64 (p0_0), .int .i64 (p0_1)]) (by kernel_rfl) ?_
  intro b1 w2 G3 F4 hc5
  replace F4 : Cl w2 b1 34 [.int .i64 (p0_0), .int .i64 (p0_1)] := F4
  replace hB := hB.inS hc5 inNil
  replace G3 := Nat.le_trans hZ G3
  replace hZ := Nat.le_trans hZ hc5.size
  refine wS_pure 1 [(2, .bool (false))] (by kernel_rfl) ?_
  refine wS_end (by rfl) ?_
  refine eX_then ?_
  refine cW_seq ?_
  refine cW_region ?_
  refine wS_loadA (d := 3) (T := 34) (ad := ⟨b1, 0, none⟩) (vs := [.int .i64 (p0_0), .int .i64 (p0_1)]) (by kernel_rfl) vt34 (fun i u hu => box_cells F4 0 hu (by rfl)) ?_
  obtain ⟨y7, hy8, hm⟩ := bindE hm
  refine wS_calls (d := 4) (f := 79) (vs := [.agg #[.int .i64 (p0_0), .int .i64 (p0_1)]]) (by kernel_rfl) ent79 (c_impl_IsPoint hy8) ?_
  rintro _ w9 ⟨rfl, hc10⟩
  replace F4 := F4.chg hc10 notNil
  replace hB := hB.inS hc10 inNil
  replace hZ := Nat.le_trans hZ hc10.size
  refine ⟨.bool (y7), rfl, ?_⟩
  refine wS_pure 2 [(2, .bool (!y7)), (5, .bool (!y7))] (by kernel_rfl) ?_
  refine wS_end (by rfl) ?_
  refine eX_then ?_
  refine cW_ret ?_
  have hq : (some (!y7) : Option ((Bool))) = some _ := hm
  replace hq := someE hq
  subst hq
  refine eX_ret (vs := [.bool (!y7)]) [.tmp 2] (by rfl) ⟨by (show lkE _ _ _ = _); kernel_rfl, trivial⟩ ?_
  exact ⟨rfl, hB⟩

set_option maxRecDepth 100000 in
/-- impl.size -/
theorem c_impl_size {w0 : World} {p0 : Int} {r : (Int)} (hm : m_impl_size p0 = some r)  :
    Calls Try.prog 118 #[.int .i64 (p0)] w0 fun e w' => e = .returned (.int .i64 (r)) ∧ Chg [] w0 w' := by
  have hB : Chg [] w0 w0 := Chg.refl _ _
  have hZ := Nat.le_refl w0.heap.size
  unfold m_impl_size at hm
  refine enterE (N := 7) Try.func118 (by rfl) Try.ntmps118 (by simp) [(0, .int .i64 (p0))] (by rfl) (by kernel_rfl) (fun a => ?_)
  refine cW_seq ?_
  refine cW_region ?_
  refine wS_pure 1 [(2, .int .i64 (0))] (by kernel_rfl) ?_
  refine wS_end (by rfl) ?_
  refine eX_then ?_
  refine cW_seq ?_
  refine cW_region ?_
  refine wS_pure 5 [(2, .int .i64 (if (wr (0 - p0)) > p0 then (wr (0 - p0)) else p0)), (6, .int .i64 (if (wr (0 - p0)) > p0 then (wr (0 - p0)) else p0)), (5, .int .i64 (wr (0 - p0))), (4, .int .i64 (p0)), (3, .int .i64 (p0))] (by kernel_rfl) ?_
  refine wS_end (by rfl) ?_
  refine eX_then ?_
  refine cW_ret ?_
  have hq : (some (if (wr (0 - p0)) > p0 then (wr (0 - p0)) else p0) : Option ((Int))) = some _ := hm
  replace hq := someE hq
  subst hq
  refine eX_ret (vs := [.int .i64 (if (wr (0 - p0)) > p0 then (wr (0 - p0)) else p0)]) [.tmp 2] (by rfl) ⟨by (show lkE _ _ _ = _); kernel_rfl, trivial⟩ ?_
  exact ⟨rfl, hB⟩

set_option maxRecDepth 100000 in
/-- impl.far -/
theorem c_impl_far {w0 : World} {p0_0 : Int} {p0_1 : Int} {p1_0 : Int} {p1_1 : Int} {r : (Int)} (hm : m_impl_far p0_0 p0_1 p1_0 p1_1 = some r)  :
    Calls Try.prog 73 #[.agg #[.int .i64 (p0_0), .int .i64 (p0_1)], .agg #[.int .i64 (p1_0), .int .i64 (p1_1)]] w0 fun e w' => e = .returned (.int .i64 (r)) ∧ Chg [] w0 w' := by
  have hB : Chg [] w0 w0 := Chg.refl _ _
  have hZ := Nat.le_refl w0.heap.size
  unfold m_impl_far at hm
  refine enterE (N := 18) Try.func73 (by rfl) Try.ntmps73 (by simp) [(0, .agg #[.int .i64 (p0_0), .int .i64 (p0_1)]), (1, .agg #[.int .i64 (p1_0), .int .i64 (p1_1)])] (by rfl) (by kernel_rfl) (fun a => ?_)
  refine cW_seq ?_
  refine cW_region ?_
  refine wS_box (d := 2) (T := 34) (x := .agg #[.int .i64 (p0_0), .int .i64 (p0_1)]) (by kernel_rfl) ?_
  intro b1 w2 G3 F4 hc5
  replace F4 : Cl w2 b1 34 [.int .i64 (p0_0), .int .i64 (p0_1)] := F4
  replace hB := hB.inS hc5 inNil
  replace G3 := Nat.le_trans hZ G3
  replace hZ := Nat.le_trans hZ hc5.size
  refine wS_box (d := 3) (T := 34) (x := .agg #[.int .i64 (p1_0), .int .i64 (p1_1)]) (by kernel_rfl) ?_
  intro b7 w8 G9 F10 hc11
  replace F10 : Cl w8 b7 34 [.int .i64 (p1_0), .int .i64 (p1_1)] := F10
  have D13 : Dj [b1] [b7] := Dj.of (lt1 F4.lt) (low1 G9)
  replace F4 := F4.chg hc11 notNil
  replace hB := hB.inS hc11 inNil
  replace G9 := Nat.le_trans hZ G9
  replace hZ := Nat.le_trans hZ hc11.size
  refine wS_pure 1 [(4, .int .i64 (0))] (by kernel_rfl) ?_
  refine wS_end (by rfl) ?_
  refine eX_then ?_
  refine cW_seq ?_
  refine cW_drawnTail [] 11 (by kernel_rfl) (by kernel_rfl) (fun w26 hc27 => ?_)
  replace F4 := F4.chg hc27 notNil
  replace F10 := F10.chg hc27 notNil
  replace hB := hB.inS hc27 inNil
  replace hZ := Nat.le_trans hZ hc27.size
  have hS := Chg.refl [] w26
  have Z28 := F4
  have Z29 := F10
  refine wH_take [0] [0] [(5, .pointer (some ⟨b1, 0, none⟩))] (by kernel_rfl) (qT (qT qZ)) (by kernel_rfl) ?_
  refine wH_load1 (i := 1) (d := 6) (T := 2) (ad := ⟨b1, 0, none⟩) (v := .int .i64 (p0_0)) (by kernel_rfl) (qT (qT qZ)) (by kernel_rfl) (by kernel_rfl) vt2 (fun W hW => (Z28.chg hW notNil).cell 0) ?_
  refine wH_take [2] [2, 1, 0] [(7, .pointer (some ⟨b7, 0, none⟩))] (by kernel_rfl) (qT (qT qZ)) (by kernel_rfl) ?_
  refine wH_load1 (i := 3) (d := 8) (T := 2) (ad := ⟨b7, 0, none⟩) (v := .int .i64 (p1_0)) (by kernel_rfl) (qT (qT qZ)) (by kernel_rfl) (by kernel_rfl) vt2 (fun W hW => (Z29.chg hW notNil).cell 0) ?_
  refine wH_take [4, 6] [6, 4, 3, 2, 1, 0] [(11, .pointer (some ⟨b1, 1, none⟩)), (9, .int .i64 (wr (p0_0 - p1_0)))] (by kernel_rfl) (qT (qT qZ)) (by kernel_rfl) ?_
  refine wH_load1 (i := 7) (d := 12) (T := 2) (ad := ⟨b1, 1, none⟩) (v := .int .i64 (p0_1)) (by kernel_rfl) (qT (qT qZ)) (by kernel_rfl) (by kernel_rfl) vt2 (fun W hW => (Z28.chg hW notNil).cell 1) ?_
  refine wH_take [8] [8, 7, 6, 4, 3, 2, 1, 0] [(13, .pointer (some ⟨b7, 1, none⟩))] (by kernel_rfl) (qT (qT qZ)) (by kernel_rfl) ?_
  refine wH_load1 (i := 9) (d := 14) (T := 2) (ad := ⟨b7, 1, none⟩) (v := .int .i64 (p1_1)) (by kernel_rfl) (qT (qT qZ)) (by kernel_rfl) (by kernel_rfl) vt2 (fun W hW => (Z29.chg hW notNil).cell 1) ?_
  refine wH_take [10] [10, 9, 8, 7, 6, 4, 3, 2, 1, 0] [(15, .int .i64 (wr (p0_1 - p1_1)))] (by kernel_rfl) (qT (qT qZ)) (by kernel_rfl) ?_
  refine wH_all [5] (by rfl) (by kernel_rfl) (by simp) ⟨⟨by kernel_rfl, ?_⟩, trivial⟩
  obtain ⟨y30, hy31, hm⟩ := bindE hm
  refine wS_calls (d := 10) (f := 118) (vs := [.int .i64 (wr (p0_0 - p1_0))]) (by kernel_rfl) ent118 (c_impl_size hy31) ?_
  rintro _ w32 ⟨rfl, hc33⟩
  replace F4 := F4.chg hc33 notNil
  replace F10 := F10.chg hc33 notNil
  replace hB := hB.inS hc33 inNil
  have hSz := hS
  replace hS := hS.inS hc33 inNil
  replace hZ := Nat.le_trans hZ hc33.size
  refine ⟨.int .i64 (y30), rfl, ?_⟩
  refine wS_end (by kernel_rfl) ?_
  refine eX_KH hS ?_
  refine wH_done (by kernel_rfl) ?_
  refine eX_tail ?_
  obtain ⟨y34, hy35, hm⟩ := bindE hm
  refine wS_calls (d := 16) (f := 118) (vs := [.int .i64 (wr (p0_1 - p1_1))]) (by kernel_rfl) ent118 (c_impl_size hy35) ?_
  rintro _ w36 ⟨rfl, hc37⟩
  replace F4 := F4.chg hc37 notNil
  replace F10 := F10.chg hc37 notNil
  replace hB := hB.inS hc37 inNil
  replace hZ := Nat.le_trans hZ hc37.size
  refine ⟨.int .i64 (y34), rfl, ?_⟩
  refine wS_pure 2 [(4, .int .i64 (wr (y30 + y34))), (17, .int .i64 (wr (y30 + y34)))] (by kernel_rfl) ?_
  refine wS_end (by rfl) ?_
  refine eX_then ?_
  refine cW_ret ?_
  have hq : (some (wr (y30 + y34)) : Option ((Int))) = some _ := hm
  replace hq := someE hq
  subst hq
  refine eX_ret (vs := [.int .i64 (wr (y30 + y34))]) [.tmp 4] (by rfl) ⟨by (show lkE _ _ _ = _); kernel_rfl, trivial⟩ ?_
  exact ⟨rfl, hB⟩

set_option maxRecDepth 100000 in
/-- impl.Point] -/
theorem c_slices_IndexFunc_impl_Point_impl_Point_impl_noPoint {w0 : World} {l0 : List (Int × Int)} {A0 : Option Addr} {cap0 : Nat} {fp0 : List Nat} {r : (Int)} (hm : m_slices_IndexFunc_impl_Point_impl_Point_impl_noPoint l0 = some r) (F0 : Sl 2 encII w0 fp0 A0 l0) :
    Calls Try.prog 117 #[.slice A0 (l0).length cap0, .func (.func 72) #[] #[]] w0 fun e w' => e = .returned (.int .i64 (r)) ∧ Chg [] w0 w' := by
  have L0 := F0.low
  have hB : Chg [] w0 w0 := Chg.refl _ _
  have hZ := Nat.le_refl w0.heap.size
  unfold m_slices_IndexFunc_impl_Point_impl_Point_impl_noPoint at hm
  refine enterE (N := 19) Try.func117 (by rfl) Try.ntmps117 (by simp) [(0, .slice A0 (l0).length cap0), (1, .func (.func 72) #[] #[])] (by rfl) (by kernel_rfl) (fun a => ?_)
  refine cW_seq ?_
  refine cW_region ?_
  refine wS_pure 1 [(4, .int .i64 (0))] (by kernel_rfl) ?_
  refine wS_end (by rfl) ?_
  refine eX_then ?_
  refine cW_seq ?_
  refine cW_seq ?_
  refine cW_region ?_
  refine wS_pure 3 [(8, .int .i64 (0)), (7, .int .i64 (((l0).length : Int))), (6, .slice A0 (l0).length cap0)] (by kernel_rfl) ?_
  refine wS_end (by rfl) ?_
  refine eX_then ?_
  obtain ⟨r29, hr30, hm⟩ := bindE hm
  have hm31 := hm
  refine cW_cut (fun a' w' => Sum.inl (()) = r29 ∧ Fr 19 [] a' ∧ Chg [] w0 w' ∧ w0.heap.size ≤ w'.heap.size) ?_ ?_
  · refine cW_block ?_
    refine cW_loop _ (fun (s32 : Int) a' w' => ∃ x26 : Int, x26 = s32 ∧ Fr 19 [(0, .slice A0 (l0).length cap0), (1, .func (.func 72) #[] #[]), (7, .int .i64 (((l0).length : Int))), (8, .int .i64 (x26))] a' ∧ Sl 2 encII w' fp0 A0 l0 ∧ Chg [] w0 w' ∧ w0.heap.size ≤ w'.heap.size) hr30 (fun hst => ⟨0, rfl, Fr.of hst (by kernel_rfl), F0, hB, hZ⟩) ?_
    rintro _ c33 a' w25 ⟨x26, rfl, hF27, F28, hB, hZ⟩ hx34
    refine Fr.goOn hF27 (by kernel_rfl) ?_
    have hm := hx34
    unfold m_slices_IndexFunc_impl_Point_impl_Point_impl_noPoint_s1 at hm
    refine cW_seq ?_
    refine cW_region ?_
    refine wS_pure 1 [(9, .bool (decide (x26 < (((l0).length : Int)))))] (by kernel_rfl) ?_
    refine wS_end (by rfl) ?_
    refine eX_then ?_
    refine cW_seq ?_
    refine cW_cond (t := decide (x26 < (((l0).length : Int)))) (by kernel_rfl) (fun hb35 => ?_) (fun hb35 => ?_)
    · have hm := condT hb35 hm
      refine cW_skip ?_
      refine eX_then ?_
      refine cW_seq ?_
      refine cW_block ?_
      refine cW_seq ?_
      refine cW_region ?_
      refine wS_pure 2 [(5, .int .i64 (x26)), (10, .int .i64 (x26))] (by kernel_rfl) ?_
      refine wS_end (by rfl) ?_
      refine eX_then ?_
      refine cW_seq ?_
      refine cW_region ?_
      refine wS_pure 3 [(13, .int .i64 (x26)), (12, .slice A0 (l0).length cap0), (11, .func (.func 72) #[] #[])] (by kernel_rfl) ?_
      obtain ⟨x36, hx37, hm⟩ := bindE hm
      refine wS_idx (d := 14) (T := 25) (A := A0) (n := (l0).length) (cap := cap0) (kd := .i64) (m := x26) (by kernel_rfl) sl25 (F28.is hx37) ?_
      refine wS_loadA (d := 15) (T := 34) (ad := (elA A0 2 (x26) 0)) (vs := [.int .i64 (x36.1), .int .i64 (x36.2)]) (by kernel_rfl) vt34 (fun i u hu => Sl.cells_at F28 hx37 0 hu (by rfl)) ?_
      obtain ⟨y38, hy39, hm⟩ := bindE hm
      refine wS_calls (d := 16) (f := 72) (vs := [.agg #[.int .i64 (x36.1), .int .i64 (x36.2)]]) (by kernel_rfl) ent72 (c_impl_noPoint hy39) ?_
      rintro _ w40 ⟨rfl, hc41⟩
      replace F28 := F28.chg hc41 Dj.nil
      replace hB := hB.inS hc41 inNil
      replace hZ := Nat.le_trans hZ hc41.size
      refine ⟨.bool (y38), rfl, ?_⟩
      refine wS_end (by rfl) ?_
      refine eX_then ?_
      refine cW_cond (t := y38) (by kernel_rfl) (fun hb42 => ?_) (fun hb42 => ?_)
      · have hm := condT hb42 hm
        refine cW_seq ?_
        refine cW_region ?_
        refine wS_pure 2 [(4, .int .i64 (x26)), (17, .int .i64 (x26))] (by kernel_rfl) ?_
        refine wS_end (by rfl) ?_
        refine eX_then ?_
        refine cW_ret ?_
        refine eX_block_ret ?_
        refine eX_then_ret ?_
        have hq : (some (Ctl.out (Sum.inr x26)) : Option (Ctl (Int) (Sum (Unit) ((Int))))) = some _ := hm
        replace hq := someE hq
        subst hq
        refine eX_outR hx34 (fun hr => ?_)
        subst hr
        refine eX_block_ret ?_
        refine eX_then_ret ?_
        refine eX_then_ret ?_
        have hq : (some x26 : Option ((Int))) = some _ := hm31
        replace hq := someE hq
        subst hq
        refine eX_ret (vs := [.int .i64 (x26)]) [.tmp 4] (by rfl) ⟨by (show lkE _ _ _ = _); kernel_rfl, trivial⟩ ?_
        exact ⟨rfl, hB⟩
      · have hm := condF hb42 hm
        refine cW_skip ?_
        refine eX_block ?_
        refine eX_then ?_
        refine cW_region ?_
        refine wS_pure 2 [(8, .int .i64 (wr (x26 + 1))), (18, .int .i64 (wr (x26 + 1)))] (by kernel_rfl) ?_
        refine wS_end (by rfl) ?_
        have hq : (some (Ctl.next (wr (x26 + 1))) : Option (Ctl (Int) (Sum (Unit) ((Int))))) = some _ := hm
        replace hq := someE hq
        subst hq
        exact eX_next hx34 (fun hst => ⟨wr (x26 + 1), rfl, Fr.of hst (by kernel_rfl), F28, hB, hZ⟩)
    · have hm := condF hb35 hm
      refine cW_exit ?_
      refine eX_then_exit ?_
      have hq : (some (Ctl.out (Sum.inl (()))) : Option (Ctl (Int) (Sum (Unit) ((Int))))) = some _ := hm
      replace hq := someE hq
      subst hq
      refine eX_outX hx34 (fun hr43 => ?_)
      replace hr43 := hr43.symm
      subst hr43
      refine eX_block_hit ?_
      exact eX_J (fun hst => ⟨rfl, Fr.of hst (by kernel_rfl), hB, hZ⟩)
  · rintro a' w23 ⟨hJ, hF24, hB, hZ⟩
    subst hJ
    refine Fr.goX hF24 (by kernel_rfl) ?_
    refine eX_then ?_
    refine cW_seq ?_
    refine cW_region ?_
    refine wS_pure 1 [(4, .int .i64 ((-1)))] (by kernel_rfl) ?_
    refine wS_end (by rfl) ?_
    refine eX_then ?_
    refine cW_ret ?_
    have hq : (some ((-1)) : Option ((Int))) = some _ := hm
    replace hq := someE hq
    subst hq
    refine eX_ret (vs := [.int .i64 ((-1))]) [.tmp 4] (by rfl) ⟨by (show lkE _ _ _ = _); kernel_rfl, trivial⟩ ?_
    exact ⟨rfl, hB⟩

set_option maxRecDepth 100000 in
/-- impl.Point] -/
theorem c_slices_ContainsFunc_impl_Point_impl_Point_impl_noPoint {w0 : World} {l0 : List (Int × Int)} {A0 : Option Addr} {cap0 : Nat} {fp0 : List Nat} {r : (Bool)} (hm : m_slices_ContainsFunc_impl_Point_impl_Point_impl_noPoint l0 = some r) (F0 : Sl 2 encII w0 fp0 A0 l0) :
    Calls Try.prog 71 #[.slice A0 (l0).length cap0, .func (.func 72) #[] #[]] w0 fun e w' => e = .returned (.bool (r)) ∧ Chg [] w0 w' := by
  have L0 := F0.low
  have hB : Chg [] w0 w0 := Chg.refl _ _
  have hZ := Nat.le_refl w0.heap.size
  unfold m_slices_ContainsFunc_impl_Point_impl_Point_impl_noPoint at hm
  refine enterE (N := 9) Try.func71 (by rfl) Try.ntmps71 (by simp) [(0, .slice A0 (l0).length cap0), (1, .func (.func 72) #[] #[])] (by rfl) (by kernel_rfl) (fun a => ?_)
  refine cW_seq ?_
  refine cW_region ?_
  refine wS_pure 1 [(4, .bool (false))] (by kernel_rfl) ?_
  refine wS_end (by rfl) ?_
  refine eX_then ?_
  refine cW_seq ?_
  refine cW_region ?_
  refine wS_pure 2 [(6, .func (.func 72) #[] #[]), (5, .slice A0 (l0).length cap0)] (by kernel_rfl) ?_
  obtain ⟨y2, hy3, hm⟩ := bindE hm
  refine wS_calls (d := 7) (f := 117) (vs := [.slice A0 (l0).length cap0, .func (.func 72) #[] #[]]) (by kernel_rfl) ent117 (c_slices_IndexFunc_impl_Point_impl_Point_impl_noPoint hy3 F0) ?_
  rintro _ w4 ⟨rfl, hc5⟩
  replace F0 := F0.chg hc5 Dj.nil
  replace hB := hB.inS hc5 inNil
  replace hZ := Nat.le_trans hZ hc5.size
  refine ⟨.int .i64 (y2), rfl, ?_⟩
  refine wS_pure 2 [(4, .bool (decide (y2 ≥ 0))), (8, .bool (decide (y2 ≥ 0)))] (by kernel_rfl) ?_
  refine wS_end (by rfl) ?_
  refine eX_then ?_
  refine cW_ret ?_
  have hq : (some (decide (y2 ≥ 0)) : Option ((Bool))) = some _ := hm
  replace hq := someE hq
  subst hq
  refine eX_ret (vs := [.bool (decide (y2 ≥ 0))]) [.tmp 4] (by rfl) ⟨by (show lkE _ _ _ = _); kernel_rfl, trivial⟩ ?_
  exact ⟨rfl, hB⟩

set_option maxRecDepth 100000 in
/-- impl.IsPath -/
theorem c_impl_IsPath {w0 : World} {l0 : List (Int × Int)} {A0 : Option Addr} {cap0 : Nat} {fp0 : List Nat} {r : (Bool)} (hm : m_impl_IsPath l0 = some r) (F0 : Sl 2 encII w0 fp0 A0 l0) :
    Calls Try.prog 23 #[.slice A0 (l0).length cap0] w0 fun e w' => e = .returned (.bool (r)) ∧ Chg [] w0 w' := by
  have L0 := F0.low
  have hB : Chg [] w0 w0 := Chg.refl _ _
  have hZ := Nat.le_refl w0.heap.size
  unfold m_impl_IsPath at hm
  refine enterE (N := 39) Try.func23 (by rfl) Try.ntmps23 (by simp) [(0, .slice A0 (l0).length cap0)] (by rfl) (by kernel_rfl) (fun a => ?_)
  refine cW_seq ?_
  refine cW_region ?_
  refine wS_pure 1 [(2, .bool (false))] (by kernel_rfl) ?_
  refine wS_end (by rfl) ?_
  refine eX_then ?_
  refine cW_seq ?_
  refine cW_seq ?_
  refine cW_region ?_
  refine wS_pure 4 [(7, .bool (decide ((((l0).length : Int)) < 1))), (6, .bool (decide ((((l0).length : Int)) < 1))), (5, .int .i64 (((l0).length : Int))), (4, .slice A0 (l0).length cap0)] (by kernel_rfl) ?_
  refine wS_bool (decide ((((l0).length : Int)) < 1)) (fun hb2 => ?_) (fun hb2 => ?_)
  · have hm := condT hb2 hm
    rewrite [hb2]
    refine wS_pure 8 [(15, .bool (true)), (14, undef), (13, undef), (12, .bool (true)), (11, .bool (true)), (10, undef), (9, undef), (8, undef)] (by kernel_rfl) ?_
    refine wS_end (by rfl) ?_
    refine eX_then ?_
    refine cW_cond_t (by kernel_rfl) ?_
    refine cW_seq ?_
    refine cW_region ?_
    refine wS_pure 1 [(2, .bool (false))] (by kernel_rfl) ?_
    refine wS_end (by rfl) ?_
    refine eX_then ?_
    refine cW_ret ?_
    refine eX_then_ret ?_
    have hq : (some false : Option ((Bool))) = some _ := hm
    replace hq := someE hq
    subst hq
    refine eX_ret (vs := [.bool (false)]) [.tmp 2] (by rfl) ⟨by (show lkE _ _ _ = _); kernel_rfl, trivial⟩ ?_
    exact ⟨rfl, hB⟩
  · have hm := condF hb2 hm
    rewrite [hb2]
    refine wS_pure 5 [(12, .bool (decide ((((l0).length : Int)) > 576))), (11, .bool (decide ((((l0).length : Int)) > 576))), (10, .bool (decide ((((l0).length : Int)) > 576))), (9, .int .i64 (((l0).length : Int))), (8, .slice A0 (l0).length cap0)] (by kernel_rfl) ?_
    refine wS_bool (decide ((((l0).length : Int)) > 576)) (fun hb3 => ?_) (fun hb3 => ?_)
    · have hm := condT hb3 hm
      rewrite [hb3]
      refine wS_pure 3 [(15, .bool (true)), (14, undef), (13, undef)] (by kernel_rfl) ?_
      refine wS_end (by rfl) ?_
      refine eX_then ?_
      refine cW_cond_t (by kernel_rfl) ?_
      refine cW_seq ?_
      refine cW_region ?_
      refine wS_pure 1 [(2, .bool (false))] (by kernel_rfl) ?_
      refine wS_end (by rfl) ?_
      refine eX_then ?_
      refine cW_ret ?_
      refine eX_then_ret ?_
      have hq : (some false : Option ((Bool))) = some _ := hm
      replace hq := someE hq
      subst hq
      refine eX_ret (vs := [.bool (false)]) [.tmp 2] (by rfl) ⟨by (show lkE _ _ _ = _); kernel_rfl, trivial⟩ ?_
      exact ⟨rfl, hB⟩
    · have hm := condF hb3 hm
      rewrite [hb3]
      refine wS_pure 1 [(13, .slice A0 (l0).length cap0)] (by kernel_rfl) ?_
      obtain ⟨y4, hy5, hm⟩ := bindE hm
      refine wS_calls (d := 14) (f := 71) (vs := [.slice A0 (l0).length cap0, .func (.func 72) #[] #[]]) (by kernel_rfl) ent71 (c_slices_ContainsFunc_impl_Point_impl_Point_impl_noPoint hy5 F0) ?_
      rintro _ w6 ⟨rfl, hc7⟩
      replace F0 := F0.chg hc7 Dj.nil
      replace hB := hB.inS hc7 inNil
      replace hZ := Nat.le_trans hZ hc7.size
      refine ⟨.bool (y4), rfl, ?_⟩
      refine wS_pure 1 [(15, .bool (y4))] (by kernel_rfl) ?_
      refine wS_end (by rfl) ?_
      refine eX_then ?_
      refine cW_cond (t := y4) (by kernel_rfl) (fun hb8 => ?_) (fun hb8 => ?_)
      · have hm := condT hb8 hm
        refine cW_seq ?_
        refine cW_region ?_
        refine wS_pure 1 [(2, .bool (false))] (by kernel_rfl) ?_
        refine wS_end (by rfl) ?_
        refine eX_then ?_
        refine cW_ret ?_
        refine eX_then_ret ?_
        have hq : (some false : Option ((Bool))) = some _ := hm
        replace hq := someE hq
        subst hq
        refine eX_ret (vs := [.bool (false)]) [.tmp 2] (by rfl) ⟨by (show lkE _ _ _ = _); kernel_rfl, trivial⟩ ?_
        exact ⟨rfl, hB⟩
      · have hm := condF hb8 hm
        refine cW_skip ?_
        refine eX_then ?_
        refine cW_seq ?_
        refine cW_seq ?_
        refine cW_region ?_
        refine wS_pure 1 [(3, .int .i64 (1))] (by kernel_rfl) ?_
        refine wS_end (by rfl) ?_
        refine eX_then ?_
        obtain ⟨r69, hr70, hm⟩ := bindE hm
        have hm71 := hm
        refine cW_cut (fun a' w' => Sum.inl (()) = r69 ∧ Fr 39 [(0, .slice A0 (l0).length cap0)] a' ∧ Sl 2 encII w' fp0 A0 l0 ∧ Chg [] w0 w' ∧ w0.heap.size ≤ w'.heap.size) ?_ ?_
        · refine cW_block ?_
          refine cW_loop _ (fun (s72 : Int) a' w' => ∃ x66 : Int, x66 = s72 ∧ Fr 39 [(0, .slice A0 (l0).length cap0), (3, .int .i64 (x66))] a' ∧ Sl 2 encII w' fp0 A0 l0 ∧ Chg [] w0 w' ∧ w0.heap.size ≤ w'.heap.size) hr70 (fun hst => ⟨1, rfl, Fr.of hst (by kernel_rfl), F0, hB, hZ⟩) ?_
          rintro _ c73 a' w65 ⟨x66, rfl, hF67, F68, hB, hZ⟩ hx74
          refine Fr.goOn hF67 (by kernel_rfl) ?_
          have hm := hx74
          unfold m_impl_IsPath_s1 at hm
          refine cW_seq ?_
          refine cW_seq ?_
          refine cW_region ?_
          refine wS_pure 4 [(19, .bool (decide (x66 < (((l0).length : Int))))), (18, .int .i64 (((l0).length : Int))), (17, .slice A0 (l0).length cap0), (16, .int .i64 (x66))] (by kernel_rfl) ?_
          refine wS_end (by rfl) ?_
          refine eX_then ?_
          refine cW_cond (t := decide (x66 < (((l0).length : Int)))) (by kernel_rfl) (fun hb75 => ?_) (fun hb75 => ?_)
          · have hm := condT hb75 hm
            refine cW_skip ?_
            refine eX_then ?_
            refine cW_seq ?_
            refine cW_block ?_
            refine cW_seq ?_
            refine cW_drawnTail [] 9 (by kernel_rfl) (by kernel_rfl) (fun w87 hc88 => ?_)
            replace F68 := F68.chg hc88 Dj.nil
            replace hB := hB.inS hc88 inNil
            replace hZ := Nat.le_trans hZ hc88.size
            have hS := Chg.refl [] w87
            have Z89 := F68
            refine wH_take [0, 1, 2] [2, 1, 0] [(24, .int .i64 (wr (x66 - 1))), (23, .int .i64 (x66)), (22, .slice A0 (l0).length cap0)] (by kernel_rfl) (qT (qT (qB (qT (qL (qB (qT (qT qZ)))))))) (by kernel_rfl) ?_
            obtain ⟨x90, hx91, hm⟩ := bindE hm
            refine wH_idx (i := 3) (d := 25) (T := 25) (A := A0) (n := (l0).length) (cap := cap0) (kd := .i64) (m := wr (x66 - 1)) (by kernel_rfl) (qT (qT (qB (qT (qL (qB (qT (qT qZ)))))))) (by kernel_rfl) (by kernel_rfl) sl25 (F68.is hx91) ?_
            refine wH_loadA (i := 4) (d := 26) (T := 34) (ad := (elA A0 2 (wr (x66 - 1)) 0)) (vs := [.int .i64 (x90.1), .int .i64 (x90.2)]) (by kernel_rfl) (qT (qT (qB (qT (qL (qB (qT (qT qZ)))))))) (by kernel_rfl) (by kernel_rfl) vt34 (fun W hW i u hu => Sl.cells_at (Z89.chg hW Dj.nil) hx91 0 hu (by rfl)) ?_
            refine wH_take [5, 6] [6, 5, 4, 3, 2, 1, 0] [(28, .int .i64 (x66)), (27, .slice A0 (l0).length cap0)] (by kernel_rfl) (qT (qT (qB (qT (qL (qB (qT (qT qZ)))))))) (by kernel_rfl) ?_
            obtain ⟨x92, hx93, hm⟩ := bindE hm
            refine wH_idx (i := 7) (d := 29) (T := 25) (A := A0) (n := (l0).length) (cap := cap0) (kd := .i64) (m := x66) (by kernel_rfl) (qT (qT (qB (qT (qL (qB (qT (qT qZ)))))))) (by kernel_rfl) (by kernel_rfl) sl25 (F68.is hx93) ?_
            refine wH_loadA (i := 8) (d := 30) (T := 34) (ad := (elA A0 2 (x66) 0)) (vs := [.int .i64 (x92.1), .int .i64 (x92.2)]) (by kernel_rfl) (qT (qT (qB (qT (qL (qB (qT (qT qZ)))))))) (by kernel_rfl) (by kernel_rfl) vt34 (fun W hW i u hu => Sl.cells_at (Z89.chg hW Dj.nil) hx93 0 hu (by rfl)) ?_
            refine wH_done (by kernel_rfl) ?_
            refine eX_tail ?_
            obtain ⟨y94, hy95, hm⟩ := bindE hm
            refine wS_calls (d := 31) (f := 73) (vs := [.agg #[.int .i64 (x90.1), .int .i64 (x90.2)], .agg #[.int .i64 (x92.1), .int .i64 (x92.2)]]) (by kernel_rfl) ent73 (c_impl_far hy95) ?_
            rintro _ w96 ⟨rfl, hc97⟩
            replace F68 := F68.chg hc97 Dj.nil
            replace hB := hB.inS hc97 inNil
            replace hZ := Nat.le_trans hZ hc97.size
            refine ⟨.int .i64 (y94), rfl, ?_⟩
            refine wS_pure 1 [(32, .bool (y94 != 1))] (by kernel_rfl) ?_
            refine wS_end (by rfl) ?_
            refine eX_then ?_
            refine cW_cond (t := y94 != 1) (by kernel_rfl) (fun hb98 => ?_) (fun hb98 => ?_)
            · have hm := condT hb98 hm
              refine cW_seq ?_
              refine cW_region ?_
              refine wS_pure 1 [(2, .bool (false))] (by kernel_rfl) ?_
              refine wS_end (by rfl) ?_
              refine eX_then ?_
              refine cW_ret ?_
              refine eX_block_ret ?_
              refine eX_then_ret ?_
              have hq : (some (Ctl.out (Sum.inr false)) : Option (Ctl (Int) (Sum (Unit) ((Bool))))) = some _ := hm
              replace hq := someE hq
              subst hq
              refine eX_outR hx74 (fun hr => ?_)
              subst hr
              refine eX_block_ret ?_
              refine eX_then_ret ?_
              refine eX_then_ret ?_
              have hq : (some false : Option ((Bool))) = some _ := hm71
              replace hq := someE hq
              subst hq
              refine eX_ret (vs := [.bool (false)]) [.tmp 2] (by rfl) ⟨by (show lkE _ _ _ = _); kernel_rfl, trivial⟩ ?_
              exact ⟨rfl, hB⟩
            · have hm := condF hb98 hm
              refine cW_skip ?_
              refine eX_block ?_
              refine eX_then ?_
              refine cW_region ?_
              refine wS_pure 3 [(3, .int .i64 (wr (x66 + 1))), (21, .int .i64 (wr (x66 + 1))), (20, .int .i64 (x66))] (by kernel_rfl) ?_
              refine wS_end (by rfl) ?_
              have hq : (some (Ctl.next (wr (x66 + 1))) : Option (Ctl (Int) (Sum (Unit) ((Bool))))) = some _ := hm
              replace hq := someE hq
              subst hq
              exact eX_next hx74 (fun hst => ⟨wr (x66 + 1), rfl, Fr.of hst (by kernel_rfl), F68, hB, hZ⟩)
          · have hm := condF hb75 hm
            refine cW_exit ?_
            refine eX_then_exit ?_
            have hq : (some (Ctl.out (Sum.inl (()))) : Option (Ctl (Int) (Sum (Unit) ((Bool))))) = some _ := hm
            replace hq := someE hq
            subst hq
            refine eX_outX hx74 (fun hr99 => ?_)
            replace hr99 := hr99.symm
            subst hr99
            refine eX_block_hit ?_
            exact eX_J (fun hst => ⟨rfl, Fr.of hst (by kernel_rfl), F68, hB, hZ⟩)
        · rintro a' w62 ⟨hJ, hF63, F64, hB, hZ⟩
          subst hJ
          refine Fr.goX hF63 (by kernel_rfl) ?_
          refine eX_then ?_
          refine cW_seq ?_
          refine cW_region ?_
          refine wS_pure 1 [(33, .slice A0 (l0).length cap0)] (by kernel_rfl) ?_
          obtain ⟨y100, hy101, hm⟩ := bindE hm
          refine wS_calls (d := 34) (f := 74) (vs := [.slice A0 (l0).length cap0]) (by kernel_rfl) ent74 (c_impl_sorted hy101 F64) ?_
          rintro _ w102 ⟨A104, cap105, fp106, rfl, F107, G108, hc103⟩
          replace F64 := F64.chg hc103 Dj.nil
          replace hB := hB.inS hc103 inNil
          replace G108 := low_le hZ G108
          replace hZ := Nat.le_trans hZ hc103.size
          refine ⟨.slice A104 (y100).length cap105, rfl, ?_⟩
          refine wS_pure 5 [(2, .bool ((((y100).length : Int)) == (((l0).length : Int)))), (38, .bool ((((y100).length : Int)) == (((l0).length : Int)))), (37, .int .i64 (((l0).length : Int))), (36, .slice A0 (l0).length cap0), (35, .int .i64 (((y100).length : Int)))] (by kernel_rfl) ?_
          refine wS_end (by rfl) ?_
          refine eX_then ?_
          refine cW_ret ?_
          have hq : (some ((((y100).length : Int)) == (((l0).length : Int))) : Option ((Bool))) = some _ := hm
          replace hq := someE hq
          subst hq
          refine eX_ret (vs := [.bool ((((y100).length : Int)) == (((l0).length : Int)))]) [.tmp 2] (by rfl) ⟨by (show lkE _ _ _ = _); kernel_rfl, trivial⟩ ?_
          exact ⟨rfl, hB⟩

set_option maxRecDepth 100000 in
/-- laws.eqPoint -/
theorem c_laws_eqPoint {w0 : World} {p0_0 : Int} {p0_1 : Int} {p1_0 : Int} {p1_1 : Int} {r : (Bool)} (hm : m_laws_eqPoint p0_0 p0_1 p1_0 p1_1 = some r)  :
    Calls Try.prog 42 #[.agg #[.int .i64 (p0_0), .int .i64 (p0_1)], .agg #[.int .i64 (p1_0), .int .i64 (p1_1)]] w0 fun e w' => e = .returned (.bool (r)) ∧ Chg [] w0 w' := by
  have hB : Chg [] w0 w0 := Chg.refl _ _
  have hZ := Nat.le_refl w0.heap.size
  unfold m_laws_eqPoint at hm
  refine enterE (N := 15) Try.func42 (by rfl) Try.ntmps42 (by simp) [(0, .agg #[.int .i64 (p0_0), .int .i64 (p0_1)]), (1, .agg #[.int .i64 (p1_0), .int .i64 (p1_1)])] (by rfl) (by kernel_rfl) (fun a => ?_)
  refine cW_seq ?_
  refine cW_region ?_
  refine wS_box (d := 2) (T := 34) (x := .agg #[.int .i64 (p0_0), .int .i64 (p0_1)]) (by kernel_rfl) ?_
  intro b1 w2 G3 F4 hc5
  replace F4 : Cl w2 b1 34 [.int .i64 (p0_0), .int .i64 (p0_1)] := F4
  replace hB := hB.inS hc5 inNil
  replace G3 := Nat.le_trans hZ G3
  replace hZ := Nat.le_trans hZ hc5.size
  refine wS_box (d := 3) (T := 34) (x := .agg #[.int .i64 (p1_0), .int .i64 (p1_1)]) (by kernel_rfl) ?_
  intro b7 w8 G9 F10 hc11
  replace F10 : Cl w8 b7 34 [.int .i64 (p1_0), .int .i64 (p1_1)] := F10
  have D13 : Dj [b1] [b7] := Dj.of (lt1 F4.lt) (low1 G9)
  replace F4 := F4.chg hc11 notNil
  replace hB := hB.inS hc11 inNil
  replace G9 := Nat.le_trans hZ G9
  replace hZ := Nat.le_trans hZ hc11.size
  refine wS_pure 1 [(4, .bool (false))] (by kernel_rfl) ?_
  refine wS_end (by rfl) ?_
  refine eX_then ?_
  refine cW_seq ?_
  refine cW_seq ?_
  refine cW_region ?_
  refine wS_pure 1 [(5, .pointer (some ⟨b1, 0, none⟩))] (by kernel_rfl) ?_
  refine wS_load1 (d := 6) (T := 2) (ad := ⟨b1, 0, none⟩) (v := .int .i64 (p0_0)) (by kernel_rfl) vt2 ((F4).cell 0) ?_
  refine wS_pure 1 [(7, .pointer (some ⟨b7, 0, none⟩))] (by kernel_rfl) ?_
  refine wS_load1 (d := 8) (T := 2) (ad := ⟨b7, 0, none⟩) (v := .int .i64 (p1_0)) (by kernel_rfl) vt2 ((F10).cell 0) ?_
  refine wS_pure 1 [(9, .bool (p0_0 != p1_0))] (by kernel_rfl) ?_
  refine wS_end (by rfl) ?_
  refine eX_then ?_
  refine cW_cond (t := p0_0 != p1_0) (by kernel_rfl) (fun hb14 => ?_) (fun hb14 => ?_)
  · have hm := condT hb14 hm
    refine cW_seq ?_
    refine cW_region ?_
    refine wS_pure 1 [(4, .bool (false))] (by kernel_rfl) ?_
    refine wS_end (by rfl) ?_
    refine eX_then ?_
    refine cW_ret ?_
    refine eX_then_ret ?_
    have hq : (some false : Option ((Bool))) = some _ := hm
    replace hq := someE hq
    subst hq
    refine eX_ret (vs := [.bool (false)]) [.tmp 4] (by rfl) ⟨by (show lkE _ _ _ = _); kernel_rfl, trivial⟩ ?_
    exact ⟨rfl, hB⟩
  · have hm := condF hb14 hm
    refine cW_skip ?_
    refine eX_then ?_
    refine cW_seq ?_
    refine cW_seq ?_
    refine cW_region ?_
    refine wS_pure 1 [(10, .pointer (some ⟨b1, 1, none⟩))] (by kernel_rfl) ?_
    refine wS_load1 (d := 11) (T := 2) (ad := ⟨b1, 1, none⟩) (v := .int .i64 (p0_1)) (by kernel_rfl) vt2 ((F4).cell 1) ?_
    refine wS_pure 1 [(12, .pointer (some ⟨b7, 1, none⟩))] (by kernel_rfl) ?_
    refine wS_load1 (d := 13) (T := 2) (ad := ⟨b7, 1, none⟩) (v := .int .i64 (p1_1)) (by kernel_rfl) vt2 ((F10).cell 1) ?_
    refine wS_pure 1 [(14, .bool (p0_1 != p1_1))] (by kernel_rfl) ?_
    refine wS_end (by rfl) ?_
    refine eX_then ?_
    refine cW_cond (t := p0_1 != p1_1) (by kernel_rfl) (fun hb15 => ?_) (fun hb15 => ?_)
    · have hm := condT hb15 hm
      refine cW_seq ?_
      refine cW_region ?_
      refine wS_pure 1 [(4, .bool (false))] (by kernel_rfl) ?_
      refine wS_end (by rfl) ?_
      refine eX_then ?_
      refine cW_ret ?_
      refine eX_then_ret ?_
      have hq : (some false : Option ((Bool))) = some _ := hm
      replace hq := someE hq
      subst hq
      refine eX_ret (vs := [.bool (false)]) [.tmp 4] (by rfl) ⟨by (show lkE _ _ _ = _); kernel_rfl, trivial⟩ ?_
      exact ⟨rfl, hB⟩
    · have hm := condF hb15 hm
      refine cW_skip ?_
      refine eX_then ?_
      refine cW_seq ?_
      refine cW_region ?_
      refine wS_pure 1 [(4, .bool (true))] (by kernel_rfl) ?_
      refine wS_end (by rfl) ?_
      refine eX_then ?_
      refine cW_ret ?_
      have hq : (some true : Option ((Bool))) = some _ := hm
      replace hq := someE hq
      subst hq
      refine eX_ret (vs := [.bool (true)]) [.tmp 4] (by rfl) ⟨by (show lkE _ _ _ = _); kernel_rfl, trivial⟩ ?_
      exact ⟨rfl, hB⟩

set_option maxRecDepth 100000 in
/-- laws.eqPointS -/
theorem c_laws_eqPointS {w0 : World} {l0 : List (Int × Int)} {A0 : Option Addr} {cap0 : Nat} {fp0 : List Nat} {l1 : List (Int × Int)} {A1 : Option Addr} {cap1 : Nat} {fp1 : List Nat} {r : (Bool)} (hm : m_laws_eqPointS l0 l1 = some r) (F0 : Sl 2 encII w0 fp0 A0 l0) (F1 : Sl 2 encII w0 fp1 A1 l1) :
    Calls Try.prog 24 #[.slice A0 (l0).length cap0, .slice A1 (l1).length cap1] w0 fun e w' => e = .returned (.bool (r)) ∧ Chg [] w0 w' := by
  have L0 := F0.low
  have L1 := F1.low
  have hB : Chg [] w0 w0 := Chg.refl _ _
  have hZ := Nat.le_refl w0.heap.size
  unfold m_laws_eqPointS at hm
  refine enterE (N := 27) Try.func24 (by rfl) Try.ntmps24 (by simp) [(0, .slice A0 (l0).length cap0), (1, .slice A1 (l1).length cap1)] (by rfl) (by kernel_rfl) (fun a => ?_)
  refine cW_seq ?_
  refine cW_region ?_
  refine wS_pure 1 [(4, .bool (false))] (by kernel_rfl) ?_
  refine wS_end (by rfl) ?_
  refine eX_then ?_
  refine cW_seq ?_
  refine cW_seq ?_
  refine cW_region ?_
  refine wS_pure 5 [(10, .bool ((((l0).length : Int)) != (((l1).length : Int)))), (9, .int .i64 (((l1).length : Int))), (8, .slice A1 (l1).length cap1), (7, .int .i64 (((l0).length : Int))), (6, .slice A0 (l0).length cap0)] (by kernel_rfl) ?_
  refine wS_end (by rfl) ?_
  refine eX_then ?_
  refine cW_cond (t := (((l0).length : Int)) != (((l1).length : Int))) (by kernel_rfl) (fun hb3 => ?_) (fun hb3 => ?_)
  · have hm := condT hb3 hm
    refine cW_seq ?_
    refine cW_region ?_
    refine wS_pure 1 [(4, .bool (false))] (by kernel_rfl) ?_
    refine wS_end (by rfl) ?_
    refine eX_then ?_
    refine cW_ret ?_
    refine eX_then_ret ?_
    have hq : (some false : Option ((Bool))) = some _ := hm
    replace hq := someE hq
    subst hq
    refine eX_ret (vs := [.bool (false)]) [.tmp 4] (by rfl) ⟨by (show lkE _ _ _ = _); kernel_rfl, trivial⟩ ?_
    exact ⟨rfl, hB⟩
  · have hm := condF hb3 hm
    refine cW_skip ?_
    refine eX_then ?_
    refine cW_seq ?_
    refine cW_seq ?_
    refine cW_region ?_
    refine wS_pure 1 [(5, .int .i64 (0))] (by kernel_rfl) ?_
    refine wS_end (by rfl) ?_
    refine eX_then ?_
    obtain ⟨r70, hr71, hm⟩ := bindE hm
    have hm72 := hm
    refine cW_cut (fun a' w' => Sum.inl (()) = r70 ∧ Fr 27 [] a' ∧ Chg [] w0 w' ∧ w0.heap.size ≤ w'.heap.size) ?_ ?_
    · refine cW_block ?_
      refine cW_loop _ (fun (s73 : Int) a' w' => ∃ x66 : Int, x66 = s73 ∧ Fr 27 [(0, .slice A0 (l0).length cap0), (1, .slice A1 (l1).length cap1), (5, .int .i64 (x66))] a' ∧ Sl 2 encII w' fp0 A0 l0 ∧ Sl 2 encII w' fp1 A1 l1 ∧ Chg [] w0 w' ∧ w0.heap.size ≤ w'.heap.size) hr71 (fun hst => ⟨0, rfl, Fr.of hst (by kernel_rfl), F0, F1, hB, hZ⟩) ?_
      rintro _ c74 a' w65 ⟨x66, rfl, hF67, F68, F69, hB, hZ⟩ hx75
      refine Fr.goOn hF67 (by kernel_rfl) ?_
      have hm := hx75
      unfold m_laws_eqPointS_s1 at hm
      refine cW_seq ?_
      refine cW_seq ?_
      refine cW_region ?_
      refine wS_pure 4 [(14, .bool (decide (x66 < (((l0).length : Int))))), (13, .int .i64 (((l0).length : Int))), (12, .slice A0 (l0).length cap0), (11, .int .i64 (x66))] (by kernel_rfl) ?_
      refine wS_end (by rfl) ?_
      refine eX_then ?_
      refine cW_cond (t := decide (x66 < (((l0).length : Int)))) (by kernel_rfl) (fun hb76 => ?_) (fun hb76 => ?_)
      · have hm := condT hb76 hm
        refine cW_skip ?_
        refine eX_then ?_
        refine cW_seq ?_
        refine cW_block ?_
        refine cW_seq ?_
        refine cW_drawnTail [] 8 (by kernel_rfl) (by kernel_rfl) (fun w89 hc90 => ?_)
        replace F68 := F68.chg hc90 Dj.nil
        replace F69 := F69.chg hc90 Dj.nil
        replace hB := hB.inS hc90 inNil
        replace hZ := Nat.le_trans hZ hc90.size
        have hS := Chg.refl [] w89
        have Z91 := F68
        have Z92 := F69
        refine wH_take [0, 1] [1, 0] [(18, .int .i64 (x66)), (17, .slice A0 (l0).length cap0)] (by kernel_rfl) (qT (qT (qB (qT (qL (qB (qT (qT qZ)))))))) (by kernel_rfl) ?_
        obtain ⟨x93, hx94, hm⟩ := bindE hm
        refine wH_idx (i := 2) (d := 19) (T := 25) (A := A0) (n := (l0).length) (cap := cap0) (kd := .i64) (m := x66) (by kernel_rfl) (qT (qT (qB (qT (qL (qB (qT (qT qZ)))))))) (by kernel_rfl) (by kernel_rfl) sl25 (F68.is hx94) ?_
        refine wH_loadA (i := 3) (d := 20) (T := 34) (ad := (elA A0 2 (x66) 0)) (vs := [.int .i64 (x93.1), .int .i64 (x93.2)]) (by kernel_rfl) (qT (qT (qB (qT (qL (qB (qT (qT qZ)))))))) (by kernel_rfl) (by kernel_rfl) vt34 (fun W hW i u hu => Sl.cells_at (Z91.chg hW Dj.nil) hx94 0 hu (by rfl)) ?_
        refine wH_take [4, 5] [5, 4, 3, 2, 1, 0] [(22, .int .i64 (x66)), (21, .slice A1 (l1).length cap1)] (by kernel_rfl) (qT (qT (qB (qT (qL (qB (qT (qT qZ)))))))) (by kernel_rfl) ?_
        obtain ⟨x95, hx96, hm⟩ := bindE hm
        refine wH_idx (i := 6) (d := 23) (T := 25) (A := A1) (n := (l1).length) (cap := cap1) (kd := .i64) (m := x66) (by kernel_rfl) (qT (qT (qB (qT (qL (qB (qT (qT qZ)))))))) (by kernel_rfl) (by kernel_rfl) sl25 (F69.is hx96) ?_
        refine wH_loadA (i := 7) (d := 24) (T := 34) (ad := (elA A1 2 (x66) 0)) (vs := [.int .i64 (x95.1), .int .i64 (x95.2)]) (by kernel_rfl) (qT (qT (qB (qT (qL (qB (qT (qT qZ)))))))) (by kernel_rfl) (by kernel_rfl) vt34 (fun W hW i u hu => Sl.cells_at (Z92.chg hW Dj.nil) hx96 0 hu (by rfl)) ?_
        refine wH_done (by kernel_rfl) ?_
        refine eX_tail ?_
        obtain ⟨y97, hy98, hm⟩ := bindE hm
        refine wS_calls (d := 25) (f := 42) (vs := [.agg #[.int .i64 (x93.1), .int .i64 (x93.2)], .agg #[.int .i64 (x95.1), .int .i64 (x95.2)]]) (by kernel_rfl) ent42 (c_laws_eqPoint hy98) ?_
        rintro _ w99 ⟨rfl, hc100⟩
        replace F68 := F68.chg hc100 Dj.nil
        replace F69 := F69.chg hc100 Dj.nil
        replace hB := hB.inS hc100 inNil
        replace hZ := Nat.le_trans hZ hc100.size
        refine ⟨.bool (y97), rfl, ?_⟩
        refine wS_pure 1 [(26, .bool (!y97))] (by kernel_rfl) ?_
        refine wS_end (by rfl) ?_
        refine eX_then ?_
        refine cW_cond (t := !y97) (by kernel_rfl) (fun hb101 => ?_) (fun hb101 => ?_)
        · have hm := condT hb101 hm
          refine cW_seq ?_
          refine cW_region ?_
          refine wS_pure 1 [(4, .bool (false))] (by kernel_rfl) ?_
          refine wS_end (by rfl) ?_
          refine eX_then ?_
          refine cW_ret ?_
          refine eX_block_ret ?_
          refine eX_then_ret ?_
          have hq : (some (Ctl.out (Sum.inr false)) : Option (Ctl (Int) (Sum (Unit) ((Bool))))) = some _ := hm
          replace hq := someE hq
          subst hq
          refine eX_outR hx75 (fun hr => ?_)
          subst hr
          refine eX_block_ret ?_
          refine eX_then_ret ?_
          refine eX_then_ret ?_
          have hq : (some false : Option ((Bool))) = some _ := hm72
          replace hq := someE hq
          subst hq
          refine eX_ret (vs := [.bool (false)]) [.tmp 4] (by rfl) ⟨by (show lkE _ _ _ = _); kernel_rfl, trivial⟩ ?_
          exact ⟨rfl, hB⟩
        · have hm := condF hb101 hm
          refine cW_skip ?_
          refine eX_block ?_
          refine eX_then ?_
          refine cW_region ?_
          refine wS_pure 3 [(5, .int .i64 (wr (x66 + 1))), (16, .int .i64 (wr (x66 + 1))), (15, .int .i64 (x66))] (by kernel_rfl) ?_
          refine wS_end (by rfl) ?_
          have hq : (some (Ctl.next (wr (x66 + 1))) : Option (Ctl (Int) (Sum (Unit) ((Bool))))) = some _ := hm
          replace hq := someE hq
          subst hq
          exact eX_next hx75 (fun hst => ⟨wr (x66 + 1), rfl, Fr.of hst (by kernel_rfl), F68, F69, hB, hZ⟩)
      · have hm := condF hb76 hm
        refine cW_exit ?_
        refine eX_then_exit ?_
        have hq : (some (Ctl.out (Sum.inl (()))) : Option (Ctl (Int) (Sum (Unit) ((Bool))))) = some _ := hm
        replace hq := someE hq
        subst hq
        refine eX_outX hx75 (fun hr102 => ?_)
        replace hr102 := hr102.symm
        subst hr102
        refine eX_block_hit ?_
        exact eX_J (fun hst => ⟨rfl, Fr.of hst (by kernel_rfl), hB, hZ⟩)
    · rintro a' w63 ⟨hJ, hF64, hB, hZ⟩
      subst hJ
      refine Fr.goX hF64 (by kernel_rfl) ?_
      refine eX_then ?_
      refine cW_seq ?_
      refine cW_region ?_
      refine wS_pure 1 [(4, .bool (true))] (by kernel_rfl) ?_
      refine wS_end (by rfl) ?_
      refine eX_then ?_
      refine cW_ret ?_
      have hq : (some true : Option ((Bool))) = some _ := hm
      replace hq := someE hq
      subst hq
      refine eX_ret (vs := [.bool (true)]) [.tmp 4] (by rfl) ⟨by (show lkE _ _ _ = _); kernel_rfl, trivial⟩ ?_
      exact ⟨rfl, hB⟩

set_option maxRecDepth 100000 in
/-- impl.LengthOf -/
theorem c_impl_LengthOf {w0 : World} {l0 : List (Int × Int)} {A0 : Option Addr} {cap0 : Nat} {fp0 : List Nat} {r : (Int) × (Bool)} (hm : m_impl_LengthOf l0 = some r) (F0 : Sl 2 encII w0 fp0 A0 l0) :
    Calls Try.prog 26 #[.slice A0 (l0).length cap0] w0 fun e w' => e = .returned (.tuple #[.int .i64 (r.1), .bool (r.2)]) ∧ Chg [] w0 w' := by
  have L0 := F0.low
  have hB : Chg [] w0 w0 := Chg.refl _ _
  have hZ := Nat.le_refl w0.heap.size
  unfold m_impl_LengthOf at hm
  refine enterE (N := 10) Try.func26 (by rfl) Try.ntmps26 (by simp) [(0, .slice A0 (l0).length cap0)] (by rfl) (by kernel_rfl) (fun a => ?_)
  refine cW_seq ?_
  refine cW_region ?_
  refine wS_pure 2 [(3, .bool (false)), (2, .int .i64 (0))] (by kernel_rfl) ?_
  refine wS_end (by rfl) ?_
  refine eX_then ?_
  refine cW_seq ?_
  refine cW_seq ?_
  refine cW_region ?_
  refine wS_pure 1 [(4, .slice A0 (l0).length cap0)] (by kernel_rfl) ?_
  obtain ⟨y2, hy3, hm⟩ := bindE hm
  refine wS_calls (d := 5) (f := 23) (vs := [.slice A0 (l0).length cap0]) (by kernel_rfl) ent23 (c_impl_IsPath hy3 F0) ?_
  rintro _ w4 ⟨rfl, hc5⟩
  replace F0 := F0.chg hc5 Dj.nil
  replace hB := hB.inS hc5 inNil
  replace hZ := Nat.le_trans hZ hc5.size
  refine ⟨.bool (y2), rfl, ?_⟩
  refine wS_pure 1 [(6, .bool (!y2))] (by kernel_rfl) ?_
  refine wS_end (by rfl) ?_
  refine eX_then ?_
  refine cW_cond (t := !y2) (by kernel_rfl) (fun hb6 => ?_) (fun hb6 => ?_)
  · have hm := condT hb6 hm
    refine cW_seq ?_
    refine cW_region ?_
    refine wS_pure 2 [(3, .bool (false)), (2, .int .i64 (0))] (by kernel_rfl) ?_
    refine wS_end (by rfl) ?_
    refine eX_then ?_
    refine cW_ret ?_
    refine eX_then_ret ?_
    have hq : (some ((0, false)) : Option ((Int) × (Bool))) = some _ := hm
    replace hq := someE hq
    subst hq
    refine eX_ret (vs := [.int .i64 (0), .bool (false)]) [.tmp 2, .tmp 3] (by rfl) ⟨by (show lkE _ _ _ = _); kernel_rfl, ⟨by (show lkE _ _ _ = _); kernel_rfl, trivial⟩⟩ ?_
    exact ⟨rfl, hB⟩
  · have hm := condF hb6 hm
    refine cW_skip ?_
    refine eX_then ?_
    refine cW_seq ?_
    refine cW_region ?_
    refine wS_pure 5 [(3, .bool (true)), (2, .int .i64 (wr ((((l0).length : Int)) - 1))), (9, .int .i64 (wr ((((l0).length : Int)) - 1))), (8, .int .i64 (((l0).length : Int))), (7, .slice A0 (l0).length cap0)] (by kernel_rfl) ?_
    refine wS_end (by rfl) ?_
    refine eX_then ?_
    refine cW_ret ?_
    have hq : (some ((wr ((((l0).length : Int)) - 1), true)) : Option ((Int) × (Bool))) = some _ := hm
    replace hq := someE hq
    subst hq
    refine eX_ret (vs := [.int .i64 (wr ((((l0).length : Int)) - 1)), .bool (true)]) [.tmp 2, .tmp 3] (by rfl) ⟨by (show lkE _ _ _ = _); kernel_rfl, ⟨by (show lkE _ _ _ = _); kernel_rfl, trivial⟩⟩ ?_
    exact ⟨rfl, hB⟩

set_option maxRecDepth 100000 in
/-- spec.l01Bend -/
theorem c_spec_l01Bend {w0 : World} {l0 : List (Int × Int)} {A0 : Option Addr} {cap0 : Nat} {fp0 : List Nat} {p1 : Int} {r : (Bool)} (hm : m_spec_l01Bend l0 p1 = some r) (F0 : Sl 2 encII w0 fp0 A0 l0) :
    Calls Try.prog 81 #[.slice A0 (l0).length cap0, .int .i64 (p1)] w0 fun e w' => e = .returned (.bool (r)) ∧ Chg [] w0 w' := by
  have L0 := F0.low
  have hB : Chg [] w0 w0 := Chg.refl _ _
  have hZ := Nat.le_refl w0.heap.size
  unfold m_spec_l01Bend at hm
  refine enterE (N := 44) Try.func81 (by rfl) Try.ntmps81 (by simp) [(0, .slice A0 (l0).length cap0), (1, .int .i64 (p1))] (by rfl) (by kernel_rfl) (fun a => ?_)
  refine cW_seq ?_
  refine cW_region ?_
  refine wS_pure 1 [(4, .bool (false))] (by kernel_rfl) ?_
  refine wS_end (by rfl) ?_
  refine eX_then ?_
  refine cW_seq ?_
  refine cW_drawnTail [] 37 (by kernel_rfl) (by kernel_rfl) (fun w16 hc17 => ?_)
  replace F0 := F0.chg hc17 Dj.nil
  replace hB := hB.inS hc17 inNil
  replace hZ := Nat.le_trans hZ hc17.size
  have hS := Chg.refl [] w16
  have Z18 := F0
  refine wH_take [0, 1, 2] [2, 1, 0] [(7, .bool (decide (p1 > 0))), (6, .bool (decide (p1 > 0))), (5, .int .i64 (p1))] (by kernel_rfl) (qT (qT qZ)) (by kernel_rfl) ?_
  refine wH_bool (decide (p1 > 0)) (fun hb19 => ?_) (fun hb19 => ?_)
  · have hm := condT hb19 hm
    rewrite [hb19]
    refine wH_take [3, 4, 5, 6, 7, 8, 9] [9, 8, 7, 6, 5, 4, 3, 2, 1, 0] [(14, .bool (decide ((wr (p1 + 1)) < (((l0).length : Int))))), (13, .bool (decide ((wr (p1 + 1)) < (((l0).length : Int))))), (12, .bool (decide ((wr (p1 + 1)) < (((l0).length : Int))))), (11, .int .i64 (((l0).length : Int))), (10, .slice A0 (l0).length cap0), (9, .int .i64 (wr (p1 + 1))), (8, .int .i64 (p1))] (by kernel_rfl) (qT (qT qZ)) (by kernel_rfl) ?_
    refine wH_bool (decide ((wr (p1 + 1)) < (((l0).length : Int)))) (fun hb20 => ?_) (fun hb20 => ?_)
    · have hm := condT hb20 hm
      rewrite [hb20]
      refine wH_take [10, 11, 12] [12, 11, 10, 9, 8, 7, 6, 5, 4, 3, 2, 1, 0] [(17, .int .i64 (wr (p1 - 1))), (16, .int .i64 (p1)), (15, .slice A0 (l0).length cap0)] (by kernel_rfl) (qT (qT qZ)) (by kernel_rfl) ?_
      obtain ⟨x21, hx22, hm⟩ := bindE hm
      refine wH_idx (i := 13) (d := 18) (T := 25) (A := A0) (n := (l0).length) (cap := cap0) (kd := .i64) (m := wr (p1 - 1)) (by kernel_rfl) (qT (qT qZ)) (by kernel_rfl) (by kernel_rfl) sl25 (F0.is hx22) ?_
      refine wH_take [14] [14, 13, 12, 11, 10, 9, 8, 7, 6, 5, 4, 3, 2, 1, 0] [(19, .pointer (some (elA A0 2 (wr (p1 - 1)) 0)))] (by kernel_rfl) (qT (qT qZ)) (by kernel_rfl) ?_
      refine wH_load1 (i := 15) (d := 20) (T := 2) (ad := (elA A0 2 (wr (p1 - 1)) 0)) (v := .int .i64 (x21.1)) (by kernel_rfl) (qT (qT qZ)) (by kernel_rfl) (by kernel_rfl) vt2 (fun W hW => Sl.cell (Z18.chg hW Dj.nil) hx22 0 (by rfl)) ?_
      refine wH_take [16, 17, 18] [18, 17, 16, 15, 14, 13, 12, 11, 10, 9, 8, 7, 6, 5, 4, 3, 2, 1, 0] [(23, .int .i64 (wr (p1 + 1))), (22, .int .i64 (p1)), (21, .slice A0 (l0).length cap0)] (by kernel_rfl) (qT (qT qZ)) (by kernel_rfl) ?_
      obtain ⟨x23, hx24, hm⟩ := bindE hm
      refine wH_idx (i := 19) (d := 24) (T := 25) (A := A0) (n := (l0).length) (cap := cap0) (kd := .i64) (m := wr (p1 + 1)) (by kernel_rfl) (qT (qT qZ)) (by kernel_rfl) (by kernel_rfl) sl25 (F0.is hx24) ?_
      refine wH_take [20] [20, 19, 18, 17, 16, 15, 14, 13, 12, 11, 10, 9, 8, 7, 6, 5, 4, 3, 2, 1, 0] [(25, .pointer (some (elA A0 2 (wr (p1 + 1)) 0)))] (by kernel_rfl) (qT (qT qZ)) (by kernel_rfl) ?_
      refine wH_load1 (i := 21) (d := 26) (T := 2) (ad := (elA A0 2 (wr (p1 + 1)) 0)) (v := .int .i64 (x23.1)) (by kernel_rfl) (qT (qT qZ)) (by kernel_rfl) (by kernel_rfl) vt2 (fun W hW => Sl.cell (Z18.chg hW Dj.nil) hx24 0 (by rfl)) ?_
      refine wH_take [22, 23, 24] [24, 23, 22, 21, 20, 19, 18, 17, 16, 15, 14, 13, 12, 11, 10, 9, 8, 7, 6, 5, 4, 3, 2, 1, 0] [(29, .bool (x21.1 != x23.1)), (28, .bool (x21.1 != x23.1)), (27, .bool (x21.1 != x23.1))] (by kernel_rfl) (qT (qT qZ)) (by kernel_rfl) ?_
      refine wH_bool (x21.1 != x23.1) (fun hb25 => ?_) (fun hb25 => ?_)
      · have hm := condT hb25 hm
        rewrite [hb25]
        refine wH_take [25, 26, 27] [27, 26, 25, 24, 23, 22, 21, 20, 19, 18, 17, 16, 15, 14, 13, 12, 11, 10, 9, 8, 7, 6, 5, 4, 3, 2, 1, 0] [(32, .int .i64 (wr (p1 - 1))), (31, .int .i64 (p1)), (30, .slice A0 (l0).length cap0)] (by kernel_rfl) (qT (qT qZ)) (by kernel_rfl) ?_
        obtain ⟨x26, hx27, hm⟩ := bindE hm
        refine wH_idx (i := 28) (d := 33) (T := 25) (A := A0) (n := (l0).length) (cap := cap0) (kd := .i64) (m := wr (p1 - 1)) (by kernel_rfl) (qT (qT qZ)) (by kernel_rfl) (by kernel_rfl) sl25 (F0.is hx27) ?_
        refine wH_take [29] [29, 28, 27, 26, 25, 24, 23, 22, 21, 20, 19, 18, 17, 16, 15, 14, 13, 12, 11, 10, 9, 8, 7, 6, 5, 4, 3, 2, 1, 0] [(34, .pointer (some (elA A0 2 (wr (p1 - 1)) 1)))] (by kernel_rfl) (qT (qT qZ)) (by kernel_rfl) ?_
        refine wH_load1 (i := 30) (d := 35) (T := 2) (ad := (elA A0 2 (wr (p1 - 1)) 1)) (v := .int .i64 (x26.2)) (by kernel_rfl) (qT (qT qZ)) (by kernel_rfl) (by kernel_rfl) vt2 (fun W hW => Sl.cell (Z18.chg hW Dj.nil) hx27 1 (by rfl)) ?_
        refine wH_take [31, 32, 33] [33, 32, 31, 30, 29, 28, 27, 26, 25, 24, 23, 22, 21, 20, 19, 18, 17, 16, 15, 14, 13, 12, 11, 10, 9, 8, 7, 6, 5, 4, 3, 2, 1, 0] [(38, .int .i64 (wr (p1 + 1))), (37, .int .i64 (p1)), (36, .slice A0 (l0).length cap0)] (by kernel_rfl) (qT (qT qZ)) (by kernel_rfl) ?_
        obtain ⟨x28, hx29, hm⟩ := bindE hm
        refine wH_idx (i := 34) (d := 39) (T := 25) (A := A0) (n := (l0).length) (cap := cap0) (kd := .i64) (m := wr (p1 + 1)) (by kernel_rfl) (qT (qT qZ)) (by kernel_rfl) (by kernel_rfl) sl25 (F0.is hx29) ?_
        refine wH_take [35] [35, 34, 33, 32, 31, 30, 29, 28, 27, 26, 25, 24, 23, 22, 21, 20, 19, 18, 17, 16, 15, 14, 13, 12, 11, 10, 9, 8, 7, 6, 5, 4, 3, 2, 1, 0] [(40, .pointer (some (elA A0 2 (wr (p1 + 1)) 1)))] (by kernel_rfl) (qT (qT qZ)) (by kernel_rfl) ?_
        refine wH_load1 (i := 36) (d := 41) (T := 2) (ad := (elA A0 2 (wr (p1 + 1)) 1)) (v := .int .i64 (x28.2)) (by kernel_rfl) (qT (qT qZ)) (by kernel_rfl) (by kernel_rfl) vt2 (fun W hW => Sl.cell (Z18.chg hW Dj.nil) hx29 1 (by rfl)) ?_
        refine wH_done (by kernel_rfl) ?_
        refine eX_tail ?_
        refine wS_pure 3 [(4, .bool (x26.2 != x28.2)), (43, .bool (x26.2 != x28.2)), (42, .bool (x26.2 != x28.2))] (by kernel_rfl) ?_
        refine wS_end (by rfl) ?_
        refine eX_then ?_
        refine cW_prune [(4, .bool (x26.2 != x28.2))] (by kernel_rfl) (by kernel_rfl) (fun a30 => ?_)
        refine cW_ret ?_
        have hq : (some (x26.2 != x28.2) : Option ((Bool))) = some _ := hm
        replace hq := someE hq
        subst hq
        refine eX_ret (vs := [.bool (x26.2 != x28.2)]) [.tmp 4] (by rfl) ⟨by (show lkE _ _ _ = _); kernel_rfl, trivial⟩ ?_
        exact ⟨rfl, hB⟩
      · have hm := condF hb25 hm
        rewrite [hb25]
        refine wH_take [25, 26, 27, 28, 29, 30, 31, 32, 33, 34, 35, 36] [36, 35, 34, 33, 32, 31, 30, 29, 28, 27, 26, 25, 24, 23, 22, 21, 20, 19, 18, 17, 16, 15, 14, 13, 12, 11, 10, 9, 8, 7, 6, 5, 4, 3, 2, 1, 0] [(41, undef), (40, undef), (39, undef), (38, undef), (37, undef), (36, undef), (35, undef), (34, undef), (33, undef), (32, undef), (31, undef), (30, undef)] (by kernel_rfl) (qT (qT qZ)) (by kernel_rfl) ?_
        refine wH_done (by kernel_rfl) ?_
        refine eX_tail ?_
        refine wS_pure 3 [(4, .bool (false)), (43, .bool (false)), (42, undef)] (by kernel_rfl) ?_
        refine wS_end (by rfl) ?_
        refine eX_then ?_
        refine cW_prune [(4, .bool (false))] (by kernel_rfl) (by kernel_rfl) (fun a31 => ?_)
        refine cW_ret ?_
        have hq : (some false : Option ((Bool))) = some _ := hm
        replace hq := someE hq
        subst hq
        refine eX_ret (vs := [.bool (false)]) [.tmp 4] (by rfl) ⟨by (show lkE _ _ _ = _); kernel_rfl, trivial⟩ ?_
        exact ⟨rfl, hB⟩
    · have hm := condF hb20 hm
      rewrite [hb20]
      refine wH_take [10, 11, 12, 13, 14, 15, 16, 17, 18, 19, 20, 21, 22, 23, 24, 25, 26, 27, 28, 29, 30, 31, 32, 33, 34, 35, 36] [36, 35, 34, 33, 32, 31, 30, 29, 28, 27, 26, 25, 24, 23, 22, 21, 20, 19, 18, 17, 16, 15, 14, 13, 12, 11, 10, 9, 8, 7, 6, 5, 4, 3, 2, 1, 0] [(41, undef), (40, undef), (39, undef), (38, undef), (37, undef), (36, undef), (35, undef), (34, undef), (33, undef), (32, undef), (31, undef), (30, undef), (29, .bool (false)), (28, .bool (false)), (27, undef), (26, undef), (25, undef), (24, undef), (23, undef), (22, undef), (21, undef), (20, undef), (19, undef), (18, undef), (17, undef), (16, undef), (15, undef)] (by kernel_rfl) (qT (qT qZ)) (by kernel_rfl) ?_
      refine wH_done (by kernel_rfl) ?_
      refine eX_tail ?_
      refine wS_pure 3 [(4, .bool (false)), (43, .bool (false)), (42, undef)] (by kernel_rfl) ?_
      refine wS_end (by rfl) ?_
      refine eX_then ?_
      refine cW_prune [(4, .bool (false))] (by kernel_rfl) (by kernel_rfl) (fun a32 => ?_)
      refine cW_ret ?_
      have hq : (some false : Option ((Bool))) = some _ := hm
      replace hq := someE hq
      subst hq
      refine eX_ret (vs := [.bool (false)]) [.tmp 4] (by rfl) ⟨by (show lkE _ _ _ = _); kernel_rfl, trivial⟩ ?_
      exact ⟨rfl, hB⟩
  · have hm := condF hb19 hm
    rewrite [hb19]
    refine wH_take [3, 4, 5, 6, 7, 8, 9, 10, 11, 12, 13, 14, 15, 16, 17, 18, 19, 20, 21, 22, 23, 24, 25, 26, 27, 28, 29, 30, 31, 32, 33, 34, 35, 36] [36, 35, 34, 33, 32, 31, 30, 29, 28, 27, 26, 25, 24, 23, 22, 21, 20, 19, 18, 17, 16, 15, 14, 13, 12, 11, 10, 9, 8, 7, 6, 5, 4, 3, 2, 1, 0] [(41, undef), (40, undef), (39, undef), (38, undef), (37, undef), (36, undef), (35, undef), (34, undef), (33, undef), (32, undef), (31, undef), (30, undef), (29, .bool (false)), (28, .bool (false)), (27, undef), (26, undef), (25, undef), (24, undef), (23, undef), (22, undef), (21, undef), (20, undef), (19, undef), (18, undef), (17, undef), (16, undef), (15, undef), (14, .bool (false)), (13, .bool (false)), (12, undef), (11, undef), (10, undef), (9, undef), (8, undef)] (by kernel_rfl) (qT (qT qZ)) (by kernel_rfl) ?_
    refine wH_done (by kernel_rfl) ?_
    refine eX_tail ?_
    refine wS_pure 3 [(4, .bool (false)), (43, .bool (false)), (42, undef)] (by kernel_rfl) ?_
    refine wS_end (by rfl) ?_
    refine eX_then ?_
    refine cW_prune [(4, .bool (false))] (by kernel_rfl) (by kernel_rfl) (fun a33 => ?_)
    refine cW_ret ?_
    have hq : (some false : Option ((Bool))) = some _ := hm
    replace hq := someE hq
    subst hq
    refine eX_ret (vs := [.bool (false)]) [.tmp 4] (by rfl) ⟨by (show lkE _ _ _ = _); kernel_rfl, trivial⟩ ?_
    exact ⟨rfl, hB⟩

set_option maxRecDepth 100000 in
/-- impl.corners -/
theorem c_impl_corners {w0 : World} {l0 : List (Int × Int)} {A0 : Option Addr} {cap0 : Nat} {fp0 : List Nat} {r : (List (Int × Int))} (hm : m_impl_corners l0 = some r) (F0 : Sl 2 encII w0 fp0 A0 l0) :
    Calls Try.prog 82 #[.slice A0 (l0).length cap0] w0 fun e w' => ∃ A100 cap100 fp100, e = .returned (.slice A100 (r).length cap100) ∧ Ow 2 encII 34 w' fp100 A100 cap100 r ∧ (∀ x ∈ fp100, w0.heap.size ≤ x) ∧ Chg [] w0 w' := by
  have L0 := F0.low
  have hB : Chg [] w0 w0 := Chg.refl _ _
  have hZ := Nat.le_refl w0.heap.size
  unfold m_impl_corners at hm
  refine enterE (N := 59) Try.func82 (by rfl) Try.ntmps82 (by simp) [(0, .slice A0 (l0).length cap0)] (by rfl) (by kernel_rfl) (fun a => ?_)
  refine cW_seq ?_
  refine cW_region ?_
  refine wS_pure 1 [(2, .slice none 0 0)] (by kernel_rfl) ?_
  refine wS_end (by rfl) ?_
  refine eX_then ?_
  refine cW_seq ?_
  refine cW_region ?_
  refine wS_bs0 (α := Int × Int) (enc := encII) (d := 6) (t := 25) (T := 34) (by kernel_rfl) el25 ?_
  intro b2 w3 G4 F5 hc6
  replace F0 := F0.chg hc6 Dj.nil
  replace hB := hB.inS hc6 inNil
  replace G4 := Nat.le_trans hZ G4
  replace G4 := low1 G4
  replace hZ := Nat.le_trans hZ hc6.size
  refine wS_pure 1 [(3, .slice (some ⟨b2, 0, none⟩) (([] : List (Int × Int))).length 0)] (by kernel_rfl) ?_
  refine wS_end (by rfl) ?_
  refine eX_then ?_
  refine cW_seq ?_
  refine cW_seq ?_
  refine cW_region ?_
  refine wS_pure 3 [(9, .int .i64 (0)), (8, .int .i64 (((l0).length : Int))), (7, .slice A0 (l0).length cap0)] (by kernel_rfl) ?_
  refine wS_end (by rfl) ?_
  refine eX_then ?_
  obtain ⟨r503, hr504, hm⟩ := bindE hm
  have hm505 := hm
  refine cW_cut (fun a' w' => ∃ l484 : List (Int × Int), ∃ A485 : Option Addr, ∃ cap486 : Nat, ∃ fp487 : List Nat, l484 = r503 ∧ Fr 59 [(3, .slice A485 (l484).length cap486)] a' ∧ Ow 2 encII 34 w' fp487 A485 cap486 l484 ∧ (∀ x ∈ fp487, w0.heap.size ≤ x) ∧ Chg [] w0 w' ∧ w0.heap.size ≤ w'.heap.size) ?_ ?_
  · refine cW_block ?_
    refine cW_loop _ (fun (s506 : (List (Int × Int)) × Int) a' w' => ∃ l493 : List (Int × Int), ∃ A494 : Option Addr, ∃ cap495 : Nat, ∃ fp496 : List Nat, ∃ x498 : Int, (l493, x498) = s506 ∧ Fr 59 [(0, .slice A0 (l0).length cap0), (3, .slice A494 (l493).length cap495), (7, .slice A0 (l0).length cap0), (8, .int .i64 (((l0).length : Int))), (9, .int .i64 (x498))] a' ∧ Sl 2 encII w' fp0 A0 l0 ∧ Ow 2 encII 34 w' fp496 A494 cap495 l493 ∧ (∀ x ∈ fp496, w0.heap.size ≤ x) ∧ Chg [] w0 w' ∧ w0.heap.size ≤ w'.heap.size) hr504 (fun hst => ⟨([] : List (Int × Int)), (some ⟨b2, 0, none⟩), 0, [b2], 0, rfl, Fr.of hst (by kernel_rfl), F0, F5, G4, hB, hZ⟩) ?_
    rintro _ c507 a' w492 ⟨l493, A494, cap495, fp496, x498, rfl, hF499, F500, F501, G502, hB, hZ⟩ hx508
    refine Fr.goOn hF499 (by kernel_rfl) ?_
    have hm := hx508
    unfold m_impl_corners_s1 at hm
    refine cW_seq ?_
    refine cW_region ?_
    refine wS_pure 1 [(10, .bool (decide (x498 < (((l0).length : Int)))))] (by kernel_rfl) ?_
    refine wS_end (by rfl) ?_
    refine eX_then ?_
    refine cW_seq ?_
    refine cW_cond (t := decide (x498 < (((l0).length : Int)))) (by kernel_rfl) (fun hb509 => ?_) (fun hb509 => ?_)
    · have hm := condT hb509 hm
      refine cW_skip ?_
      refine eX_then ?_
      refine cW_seq ?_
      refine cW_block ?_
      obtain ⟨s629, hs630, hm⟩ := bindE hm
      refine cW_cut (fun a' w' => ∃ l620 : List (Int × Int), ∃ A621 : Option Addr, ∃ cap622 : Nat, ∃ fp623 : List Nat, l620 = s629 ∧ Fr 59 [(0, .slice A0 (l0).length cap0), (3, .slice A621 (l620).length cap622), (7, .slice A0 (l0).length cap0), (8, .int .i64 (((l0).length : Int))), (9, .int .i64 (x498))] a' ∧ Sl 2 encII w' fp0 A0 l0 ∧ Ow 2 encII 34 w' fp623 A621 cap622 l620 ∧ (∀ x ∈ fp623, w0.heap.size ≤ x) ∧ Chg [] w0 w' ∧ w0.heap.size ≤ w'.heap.size) ?_ ?_
      · have hm := hs630
        refine cW_seq ?_
        refine cW_region ?_
        refine wS_pure 1 [(11, .int .i64 (x498))] (by kernel_rfl) ?_
        obtain ⟨x631, hx632, hm⟩ := bindE hm
        refine wS_idx (d := 12) (T := 25) (A := A0) (n := (l0).length) (cap := cap0) (kd := .i64) (m := x498) (by kernel_rfl) sl25 (F500.is hx632) ?_
        refine wS_loadA (d := 13) (T := 34) (ad := (elA A0 2 (x498) 0)) (vs := [.int .i64 (x631.1), .int .i64 (x631.2)]) (by kernel_rfl) vt34 (fun i u hu => Sl.cells_at F500 hx632 0 hu (by rfl)) ?_
        refine wS_alloc (d := 5) (T := 34) (z := .agg #[.int .i64 (0), .int .i64 (0)]) (by kernel_rfl) (by kernel_rfl) ?_
        intro b633 w634 G635 F636 hc637
        replace F636 : Cl w634 b633 34 [.int .i64 (0), .int .i64 (0)] := F636
        have D639 : Dj fp496 [b633] := Dj.of F501.low (low1 G635)
        replace F500 := F500.chg hc637 Dj.nil
        replace F501 := F501.chg hc637 Dj.nil
        replace hB := hB.inS hc637 inNil
        replace G635 := Nat.le_trans hZ G635
        replace hZ := Nat.le_trans hZ hc637.size
        refine wS_pure 1 [(4, .int .i64 (x498))] (by kernel_rfl) ?_
        refine wS_store (T := 34) (g := b633) (o := 0) (ad := ⟨b633, 0, none⟩) (v := .agg #[.int .i64 (x631.1), .int .i64 (x631.2)]) (vs := [.int .i64 (x631.1), .int .i64 (x631.2)]) (by kernel_rfl) (by rfl) sz34 (by rfl) (by rfl) F636 (by simp only [List.length_cons, List.length_nil]; omega) ?_
        intro w640 F641 hc642
        replace F500 := F500.chg hc642 (Dj.of L0 (low1 G635))
        replace F501 := F501.chg hc642 D639
        replace hB := hB.inS hc642 (inLow (low1 G635))
        replace hZ := Nat.le_trans hZ hc642.size
        replace F641 : Cl w640 b633 34 [.int .i64 (x631.1), .int .i64 (x631.2)] := F641
        clear F636
        refine wS_end (by rfl) ?_
        refine eX_then ?_
        refine cW_seq ?_
        refine cW_drawnTail [] 36 (by kernel_rfl) (by kernel_rfl) (fun w659 hc660 => ?_)
        replace F500 := F500.chg hc660 Dj.nil
        replace F501 := F501.chg hc660 Dj.nil
        replace F641 := F641.chg hc660 notNil
        replace hB := hB.inS hc660 inNil
        replace hZ := Nat.le_trans hZ hc660.size
        have hS := Chg.refl [] w659
        have Z661 := F500
        have Z662 := F501
        have Z663 := F641
        refine wH_take [0, 1, 2] [2, 1, 0] [(16, .bool (x498 == 0)), (15, .bool (x498 == 0)), (14, .int .i64 (x498))] (by kernel_rfl) (qT (qT (qT (qB (qT (qL (qB (qT (qT qZ))))))))) (by kernel_rfl) ?_
        refine wH_bool (x498 == 0) (fun hb664 => ?_) (fun hb664 => ?_)
        · have hm := condT hb664 hm
          rewrite [hb664]
          refine wH_take [3, 4, 5, 6, 7, 8, 9, 10, 11, 12, 13, 14, 15, 16, 17, 18, 19, 20, 21, 22, 23, 24, 25, 26, 27, 28, 29, 30, 31, 32, 33, 34, 35] [35, 34, 33, 32, 31, 30, 29, 28, 27, 26, 25, 24, 23, 22, 21, 20, 19, 18, 17, 16, 15, 14, 13, 12, 11, 10, 9, 8, 7, 6, 5, 4, 3, 2, 1, 0] [(49, undef), (48, undef), (47, undef), (46, undef), (45, undef), (44, undef), (43, undef), (42, undef), (41, undef), (40, undef), (39, undef), (38, undef), (37, undef), (36, undef), (35, undef), (34, undef), (33, undef), (32, undef), (31, undef), (30, undef), (29, undef), (28, undef), (27, undef), (26, undef), (25, undef), (24, undef), (23, .bool (true)), (22, .bool (true)), (21, undef), (20, undef), (19, undef), (18, undef), (17, undef)] (by kernel_rfl) (qT (qT (qT (qB (qT (qL (qB (qT (qT qZ))))))))) (by kernel_rfl) ?_
          refine wH_done (by kernel_rfl) ?_
          refine eX_tail ?_
          refine wS_pure 3 [(52, .bool (true)), (51, undef), (50, undef)] (by kernel_rfl) ?_
          refine wS_end (by rfl) ?_
          refine eX_then ?_
          refine cW_prune [(0, .slice A0 (l0).length cap0), (3, .slice A494 (l493).length cap495), (5, .pointer (some ⟨b633, 0, none⟩)), (7, .slice A0 (l0).length cap0), (8, .int .i64 (((l0).length : Int))), (9, .int .i64 (x498)), (52, .bool (true))] (by kernel_rfl) (by kernel_rfl) (fun a665 => ?_)
          refine cW_cond_t (by kernel_rfl) ?_
          refine cW_region ?_
          refine wS_pure 1 [(53, .slice A494 (l493).length cap495)] (by kernel_rfl) ?_
          refine wS_loadA (d := 54) (T := 34) (ad := ⟨b633, 0, none⟩) (vs := [.int .i64 (x631.1), .int .i64 (x631.2)]) (by kernel_rfl) vt34 (fun i u hu => box_cells F641 0 hu (by rfl)) ?_
          refine wS_bs (enc := encII) ([(x631.1, x631.2)] : List (Int × Int)) [.int .i64 (x631.1), .int .i64 (x631.2)] (d := 55) (t := 25) (T := 34) (n := 1) (ps := [(0, .agg #[.int .i64 (x631.1), .int .i64 (x631.2)])]) (by kernel_rfl) el25 encII_ok (by rfl) (by omega) (by omega) (by kernel_rfl) (by rfl) ?_
          intro b666 w667 G668 F669 hc670
          have D672 : Dj fp496 [b666] := Dj.of F501.low (low1 G668)
          have D673 : Dj [b633] [b666] := Dj.of (lt1 F641.lt) (low1 G668)
          replace F500 := F500.chg hc670 Dj.nil
          replace F501 := F501.chg hc670 Dj.nil
          replace F641 := F641.chg hc670 notNil
          replace hB := hB.inS hc670 inNil
          replace G668 := Nat.le_trans hZ G668
          replace G668 := low1 G668
          replace hZ := Nat.le_trans hZ hc670.size
          obtain ⟨_, hk674, hm⟩ := bindE hm
          replace hk674 := apE hk674
          refine wS_append (enc := encII) (l := (l493 : List (Int × Int))) (l2 := (([(x631.1, x631.2)] : List (Int × Int)) : List (Int × Int))) (d := 56) (t := 25) (T := 34) (A := A494) (A2 := (some ⟨b666, 0, none⟩)) (cap := cap495) (cap2 := 1) (by kernel_rfl) el25 encII_ok F501 (F669.sl encII_ok) (by rfl) hk674 ?_
          intro w675 fp676 A677 cap678 F679 hc680 hp681
          have G683 := low_ap G502 hZ hp681
          have D684 : Dj [b633] fp676 := Dj.ap (D639).symm (lt1 F641.lt) hp681
          have D685 : Dj [b666] fp676 := Dj.ap (D672).symm F669.low hp681
          replace F500 := F500.chg hc680 (Dj.of L0 G502)
          replace F641 := F641.chg hc680 (dj1 (D639).symm)
          replace F669 := F669.chg hc680 (D672).symm
          replace hB := hB.inS hc680 (inLow G502)
          replace hZ := Nat.le_trans hZ hc680.size
          refine wS_pure 1 [(3, .slice A677 (l493 ++ (([(x631.1, x631.2)] : List (Int × Int)))).length cap678)] (by kernel_rfl) ?_
          refine wS_end (by rfl) ?_
          have hq : (some (l493 ++ (([(x631.1, x631.2)] : List (Int × Int)))) : Option ((List (Int × Int)))) = some _ := hm
          replace hq := someE hq
          subst hq
          exact eX_J (fun hst => ⟨l493 ++ (([(x631.1, x631.2)] : List (Int × Int))), A677, cap678, fp676, rfl, Fr.of hst (by kernel_rfl), F500, F679, G683, hB, hZ⟩)
        · have hm := condF hb664 hm
          rewrite [hb664]
          refine wH_take [3, 4, 5, 6, 7, 8, 9] [9, 8, 7, 6, 5, 4, 3, 2, 1, 0] [(23, .bool (x498 == (wr ((((l0).length : Int)) - 1)))), (22, .bool (x498 == (wr ((((l0).length : Int)) - 1)))), (21, .bool (x498 == (wr ((((l0).length : Int)) - 1)))), (20, .int .i64 (wr ((((l0).length : Int)) - 1))), (19, .int .i64 (((l0).length : Int))), (18, .slice A0 (l0).length cap0), (17, .int .i64 (x498))] (by kernel_rfl) (qT (qT (qT (qB (qT (qL (qB (qT (qT qZ))))))))) (by kernel_rfl) ?_
          refine wH_bool (x498 == (wr ((((l0).length : Int)) - 1))) (fun hb686 => ?_) (fun hb686 => ?_)
          · have hm := condT hb686 hm
            rewrite [hb686]
            refine wH_take [10, 11, 12, 13, 14, 15, 16, 17, 18, 19, 20, 21, 22, 23, 24, 25, 26, 27, 28, 29, 30, 31, 32, 33, 34, 35] [35, 34, 33, 32, 31, 30, 29, 28, 27, 26, 25, 24, 23, 22, 21, 20, 19, 18, 17, 16, 15, 14, 13, 12, 11, 10, 9, 8, 7, 6, 5, 4, 3, 2, 1, 0] [(49, undef), (48, undef), (47, undef), (46, undef), (45, undef), (44, undef), (43, undef), (42, undef), (41, undef), (40, undef), (39, undef), (38, undef), (37, undef), (36, undef), (35, undef), (34, undef), (33, undef), (32, undef), (31, undef), (30, undef), (29, undef), (28, undef), (27, undef), (26, undef), (25, undef), (24, undef)] (by kernel_rfl) (qT (qT (qT (qB (qT (qL (qB (qT (qT qZ))))))))) (by kernel_rfl) ?_
            refine wH_done (by kernel_rfl) ?_
            refine eX_tail ?_
            refine wS_pure 3 [(52, .bool (true)), (51, undef), (50, undef)] (by kernel_rfl) ?_
            refine wS_end (by rfl) ?_
            refine eX_then ?_
            refine cW_prune [(0, .slice A0 (l0).length cap0), (3, .slice A494 (l493).length cap495), (5, .pointer (some ⟨b633, 0, none⟩)), (7, .slice A0 (l0).length cap0), (8, .int .i64 (((l0).length : Int))), (9, .int .i64 (x498)), (52, .bool (true))] (by kernel_rfl) (by kernel_rfl) (fun a687 => ?_)
            refine cW_cond_t (by kernel_rfl) ?_
            refine cW_region ?_
            refine wS_pure 1 [(53, .slice A494 (l493).length cap495)] (by kernel_rfl) ?_
            refine wS_loadA (d := 54) (T := 34) (ad := ⟨b633, 0, none⟩) (vs := [.int .i64 (x631.1), .int .i64 (x631.2)]) (by kernel_rfl) vt34 (fun i u hu => box_cells F641 0 hu (by rfl)) ?_
            refine wS_bs (enc := encII) ([(x631.1, x631.2)] : List (Int × Int)) [.int .i64 (x631.1), .int .i64 (x631.2)] (d := 55) (t := 25) (T := 34) (n := 1) (ps := [(0, .agg #[.int .i64 (x631.1), .int .i64 (x631.2)])]) (by kernel_rfl) el25 encII_ok (by rfl) (by omega) (by omega) (by kernel_rfl) (by rfl) ?_
            intro b688 w689 G690 F691 hc692
            have D694 : Dj fp496 [b688] := Dj.of F501.low (low1 G690)
            have D695 : Dj [b633] [b688] := Dj.of (lt1 F641.lt) (low1 G690)
            replace F500 := F500.chg hc692 Dj.nil
            replace F501 := F501.chg hc692 Dj.nil
            replace F641 := F641.chg hc692 notNil
            replace hB := hB.inS hc692 inNil
            replace G690 := Nat.le_trans hZ G690
            replace G690 := low1 G690
            replace hZ := Nat.le_trans hZ hc692.size
            obtain ⟨_, hk696, hm⟩ := bindE hm
            replace hk696 := apE hk696
            refine wS_append (enc := encII) (l := (l493 : List (Int × Int))) (l2 := (([(x631.1, x631.2)] : List (Int × Int)) : List (Int × Int))) (d := 56) (t := 25) (T := 34) (A := A494) (A2 := (some ⟨b688, 0, none⟩)) (cap := cap495) (cap2 := 1) (by kernel_rfl) el25 encII_ok F501 (F691.sl encII_ok) (by rfl) hk696 ?_
            intro w697 fp698 A699 cap700 F701 hc702 hp703
            have G705 := low_ap G502 hZ hp703
            have D706 : Dj [b633] fp698 := Dj.ap (D639).symm (lt1 F641.lt) hp703
            have D707 : Dj [b688] fp698 := Dj.ap (D694).symm F691.low hp703
            replace F500 := F500.chg hc702 (Dj.of L0 G502)
            replace F641 := F641.chg hc702 (dj1 (D639).symm)
            replace F691 := F691.chg hc702 (D694).symm
            replace hB := hB.inS hc702 (inLow G502)
            replace hZ := Nat.le_trans hZ hc702.size
            refine wS_pure 1 [(3, .slice A699 (l493 ++ (([(x631.1, x631.2)] : List (Int × Int)))).length cap700)] (by kernel_rfl) ?_
            refine wS_end (by rfl) ?_
            have hq : (some (l493 ++ (([(x631.1, x631.2)] : List (Int × Int)))) : Option ((List (Int × Int)))) = some _ := hm
            replace hq := someE hq
            subst hq
            exact eX_J (fun hst => ⟨l493 ++ (([(x631.1, x631.2)] : List (Int × Int))), A699, cap700, fp698, rfl, Fr.of hst (by kernel_rfl), F500, F701, G705, hB, hZ⟩)
          · have hm := condF hb686 hm
            rewrite [hb686]
            refine wH_take [10, 11, 12] [12, 11, 10, 9, 8, 7, 6, 5, 4, 3, 2, 1, 0] [(26, .int .i64 (wr (x498 - 1))), (25, .int .i64 (x498)), (24, .slice A0 (l0).length cap0)] (by kernel_rfl) (qT (qT (qT (qB (qT (qL (qB (qT (qT qZ))))))))) (by kernel_rfl) ?_
            obtain ⟨x708, hx709, hm⟩ := bindE hm
            refine wH_idx (i := 13) (d := 27) (T := 25) (A := A0) (n := (l0).length) (cap := cap0) (kd := .i64) (m := wr (x498 - 1)) (by kernel_rfl) (qT (qT (qT (qB (qT (qL (qB (qT (qT qZ))))))))) (by kernel_rfl) (by kernel_rfl) sl25 (F500.is hx709) ?_
            refine wH_take [14] [14, 13, 12, 11, 10, 9, 8, 7, 6, 5, 4, 3, 2, 1, 0] [(28, .pointer (some (elA A0 2 (wr (x498 - 1)) 0)))] (by kernel_rfl) (qT (qT (qT (qB (qT (qL (qB (qT (qT qZ))))))))) (by kernel_rfl) ?_
            refine wH_load1 (i := 15) (d := 29) (T := 2) (ad := (elA A0 2 (wr (x498 - 1)) 0)) (v := .int .i64 (x708.1)) (by kernel_rfl) (qT (qT (qT (qB (qT (qL (qB (qT (qT qZ))))))))) (by kernel_rfl) (by kernel_rfl) vt2 (fun W hW => Sl.cell (Z661.chg hW Dj.nil) hx709 0 (by rfl)) ?_
            refine wH_take [16, 17, 18] [18, 17, 16, 15, 14, 13, 12, 11, 10, 9, 8, 7, 6, 5, 4, 3, 2, 1, 0] [(32, .int .i64 (wr (x498 + 1))), (31, .int .i64 (x498)), (30, .slice A0 (l0).length cap0)] (by kernel_rfl) (qT (qT (qT (qB (qT (qL (qB (qT (qT qZ))))))))) (by kernel_rfl) ?_
            obtain ⟨x710, hx711, hm⟩ := bindE hm
            refine wH_idx (i := 19) (d := 33) (T := 25) (A := A0) (n := (l0).length) (cap := cap0) (kd := .i64) (m := wr (x498 + 1)) (by kernel_rfl) (qT (qT (qT (qB (qT (qL (qB (qT (qT qZ))))))))) (by kernel_rfl) (by kernel_rfl) sl25 (F500.is hx711) ?_
            refine wH_take [20] [20, 19, 18, 17, 16, 15, 14, 13, 12, 11, 10, 9, 8, 7, 6, 5, 4, 3, 2, 1, 0] [(34, .pointer (some (elA A0 2 (wr (x498 + 1)) 0)))] (by kernel_rfl) (qT (qT (qT (qB (qT (qL (qB (qT (qT qZ))))))))) (by kernel_rfl) ?_
            refine wH_load1 (i := 21) (d := 35) (T := 2) (ad := (elA A0 2 (wr (x498 + 1)) 0)) (v := .int .i64 (x710.1)) (by kernel_rfl) (qT (qT (qT (qB (qT (qL (qB (qT (qT qZ))))))))) (by kernel_rfl) (by kernel_rfl) vt2 (fun W hW => Sl.cell (Z661.chg hW Dj.nil) hx711 0 (by rfl)) ?_
            refine wH_take [22, 23] [23, 22, 21, 20, 19, 18, 17, 16, 15, 14, 13, 12, 11, 10, 9, 8, 7, 6, 5, 4, 3, 2, 1, 0] [(37, .bool (x708.1 != x710.1)), (36, .bool (x708.1 != x710.1))] (by kernel_rfl) (qT (qT (qT (qB (qT (qL (qB (qT (qT qZ))))))))) (by kernel_rfl) ?_
            refine wH_bool (x708.1 != x710.1) (fun hb712 => ?_) (fun hb712 => ?_)
            · have hm := condT hb712 hm
              rewrite [hb712]
              refine wH_take [24, 25, 26] [26, 25, 24, 23, 22, 21, 20, 19, 18, 17, 16, 15, 14, 13, 12, 11, 10, 9, 8, 7, 6, 5, 4, 3, 2, 1, 0] [(40, .int .i64 (wr (x498 - 1))), (39, .int .i64 (x498)), (38, .slice A0 (l0).length cap0)] (by kernel_rfl) (qT (qT (qT (qB (qT (qL (qB (qT (qT qZ))))))))) (by kernel_rfl) ?_
              obtain ⟨x713, hx714, hm⟩ := bindE hm
              refine wH_idx (i := 27) (d := 41) (T := 25) (A := A0) (n := (l0).length) (cap := cap0) (kd := .i64) (m := wr (x498 - 1)) (by kernel_rfl) (qT (qT (qT (qB (qT (qL (qB (qT (qT qZ))))))))) (by kernel_rfl) (by kernel_rfl) sl25 (F500.is hx714) ?_
              refine wH_take [28] [28, 27, 26, 25, 24, 23, 22, 21, 20, 19, 18, 17, 16, 15, 14, 13, 12, 11, 10, 9, 8, 7, 6, 5, 4, 3, 2, 1, 0] [(42, .pointer (some (elA A0 2 (wr (x498 - 1)) 1)))] (by kernel_rfl) (qT (qT (qT (qB (qT (qL (qB (qT (qT qZ))))))))) (by kernel_rfl) ?_
              refine wH_load1 (i := 29) (d := 43) (T := 2) (ad := (elA A0 2 (wr (x498 - 1)) 1)) (v := .int .i64 (x713.2)) (by kernel_rfl) (qT (qT (qT (qB (qT (qL (qB (qT (qT qZ))))))))) (by kernel_rfl) (by kernel_rfl) vt2 (fun W hW => Sl.cell (Z661.chg hW Dj.nil) hx714 1 (by rfl)) ?_
              refine wH_take [30, 31, 32] [32, 31, 30, 29, 28, 27, 26, 25, 24, 23, 22, 21, 20, 19, 18, 17, 16, 15, 14, 13, 12, 11, 10, 9, 8, 7, 6, 5, 4, 3, 2, 1, 0] [(46, .int .i64 (wr (x498 + 1))), (45, .int .i64 (x498)), (44, .slice A0 (l0).length cap0)] (by kernel_rfl) (qT (qT (qT (qB (qT (qL (qB (qT (qT qZ))))))))) (by kernel_rfl) ?_
              obtain ⟨x715, hx716, hm⟩ := bindE hm
              refine wH_idx (i := 33) (d := 47) (T := 25) (A := A0) (n := (l0).length) (cap := cap0) (kd := .i64) (m := wr (x498 + 1)) (by kernel_rfl) (qT (qT (qT (qB (qT (qL (qB (qT (qT qZ))))))))) (by kernel_rfl) (by kernel_rfl) sl25 (F500.is hx716) ?_
              refine wH_take [34] [34, 33, 32, 31, 30, 29, 28, 27, 26, 25, 24, 23, 22, 21, 20, 19, 18, 17, 16, 15, 14, 13, 12, 11, 10, 9, 8, 7, 6, 5, 4, 3, 2, 1, 0] [(48, .pointer (some (elA A0 2 (wr (x498 + 1)) 1)))] (by kernel_rfl) (qT (qT (qT (qB (qT (qL (qB (qT (qT qZ))))))))) (by kernel_rfl) ?_
              refine wH_load1 (i := 35) (d := 49) (T := 2) (ad := (elA A0 2 (wr (x498 + 1)) 1)) (v := .int .i64 (x715.2)) (by kernel_rfl) (qT (qT (qT (qB (qT (qL (qB (qT (qT qZ))))))))) (by kernel_rfl) (by kernel_rfl) vt2 (fun W hW => Sl.cell (Z661.chg hW Dj.nil) hx716 1 (by rfl)) ?_
              refine wH_done (by kernel_rfl) ?_
              refine eX_tail ?_
              refine wS_pure 3 [(52, .bool (x713.2 != x715.2)), (51, .bool (x713.2 != x715.2)), (50, .bool (x713.2 != x715.2))] (by kernel_rfl) ?_
              refine wS_end (by rfl) ?_
              refine eX_then ?_
              refine cW_prune [(0, .slice A0 (l0).length cap0), (3, .slice A494 (l493).length cap495), (5, .pointer (some ⟨b633, 0, none⟩)), (7, .slice A0 (l0).length cap0), (8, .int .i64 (((l0).length : Int))), (9, .int .i64 (x498)), (52, .bool (x713.2 != x715.2))] (by kernel_rfl) (by kernel_rfl) (fun a717 => ?_)
              refine cW_cond (t := x713.2 != x715.2) (by kernel_rfl) (fun hb718 => ?_) (fun hb718 => ?_)
              · have hm := condT hb718 hm
                refine cW_region ?_
                refine wS_pure 1 [(53, .slice A494 (l493).length cap495)] (by kernel_rfl) ?_
                refine wS_loadA (d := 54) (T := 34) (ad := ⟨b633, 0, none⟩) (vs := [.int .i64 (x631.1), .int .i64 (x631.2)]) (by kernel_rfl) vt34 (fun i u hu => box_cells F641 0 hu (by rfl)) ?_
                refine wS_bs (enc := encII) ([(x631.1, x631.2)] : List (Int × Int)) [.int .i64 (x631.1), .int .i64 (x631.2)] (d := 55) (t := 25) (T := 34) (n := 1) (ps := [(0, .agg #[.int .i64 (x631.1), .int .i64 (x631.2)])]) (by kernel_rfl) el25 encII_ok (by rfl) (by omega) (by omega) (by kernel_rfl) (by rfl) ?_
                intro b719 w720 G721 F722 hc723
                have D725 : Dj fp496 [b719] := Dj.of F501.low (low1 G721)
                have D726 : Dj [b633] [b719] := Dj.of (lt1 F641.lt) (low1 G721)
                replace F500 := F500.chg hc723 Dj.nil
                replace F501 := F501.chg hc723 Dj.nil
                replace F641 := F641.chg hc723 notNil
                replace hB := hB.inS hc723 inNil
                replace G721 := Nat.le_trans hZ G721
                replace G721 := low1 G721
                replace hZ := Nat.le_trans hZ hc723.size
                obtain ⟨_, hk727, hm⟩ := bindE hm
                replace hk727 := apE hk727
                refine wS_append (enc := encII) (l := (l493 : List (Int × Int))) (l2 := (([(x631.1, x631.2)] : List (Int × Int)) : List (Int × Int))) (d := 56) (t := 25) (T := 34) (A := A494) (A2 := (some ⟨b719, 0, none⟩)) (cap := cap495) (cap2 := 1) (by kernel_rfl) el25 encII_ok F501 (F722.sl encII_ok) (by rfl) hk727 ?_
                intro w728 fp729 A730 cap731 F732 hc733 hp734
                have G736 := low_ap G502 hZ hp734
                have D737 : Dj [b633] fp729 := Dj.ap (D639).symm (lt1 F641.lt) hp734
                have D738 : Dj [b719] fp729 := Dj.ap (D725).symm F722.low hp734
                replace F500 := F500.chg hc733 (Dj.of L0 G502)
                replace F641 := F641.chg hc733 (dj1 (D639).symm)
                replace F722 := F722.chg hc733 (D725).symm
                replace hB := hB.inS hc733 (inLow G502)
                replace hZ := Nat.le_trans hZ hc733.size
                refine wS_pure 1 [(3, .slice A730 (l493 ++ (([(x631.1, x631.2)] : List (Int × Int)))).length cap731)] (by kernel_rfl) ?_
                refine wS_end (by rfl) ?_
                have hq : (some (l493 ++ (([(x631.1, x631.2)] : List (Int × Int)))) : Option ((List (Int × Int)))) = some _ := hm
                replace hq := someE hq
                subst hq
                exact eX_J (fun hst => ⟨l493 ++ (([(x631.1, x631.2)] : List (Int × Int))), A730, cap731, fp729, rfl, Fr.of hst (by kernel_rfl), F500, F732, G736, hB, hZ⟩)
              · have hm := condF hb718 hm
                refine cW_skip ?_
                have hq : (some l493 : Option ((List (Int × Int)))) = some _ := hm
                replace hq := someE hq
                subst hq
                exact eX_J (fun hst => ⟨l493, A494, cap495, fp496, rfl, Fr.of hst (by kernel_rfl), F500, F501, G502, hB, hZ⟩)
            · have hm := condF hb712 hm
              rewrite [hb712]
              refine wH_take [24, 25, 26, 27, 28, 29, 30, 31, 32, 33, 34, 35] [35, 34, 33, 32, 31, 30, 29, 28, 27, 26, 25, 24, 23, 22, 21, 20, 19, 18, 17, 16, 15, 14, 13, 12, 11, 10, 9, 8, 7, 6, 5, 4, 3, 2, 1, 0] [(49, undef), (48, undef), (47, undef), (46, undef), (45, undef), (44, undef), (43, undef), (42, undef), (41, undef), (40, undef), (39, undef), (38, undef)] (by kernel_rfl) (qT (qT (qT (qB (qT (qL (qB (qT (qT qZ))))))))) (by kernel_rfl) ?_
              refine wH_done (by kernel_rfl) ?_
              refine eX_tail ?_
              refine wS_pure 3 [(52, .bool (false)), (51, .bool (false)), (50, undef)] (by kernel_rfl) ?_
              refine wS_end (by rfl) ?_
              refine eX_then ?_
              refine cW_prune [(0, .slice A0 (l0).length cap0), (3, .slice A494 (l493).length cap495), (5, .pointer (some ⟨b633, 0, none⟩)), (7, .slice A0 (l0).length cap0), (8, .int .i64 (((l0).length : Int))), (9, .int .i64 (x498)), (52, .bool (false))] (by kernel_rfl) (by kernel_rfl) (fun a739 => ?_)
              refine cW_cond_f (by kernel_rfl) ?_
              refine cW_skip ?_
              have hq : (some l493 : Option ((List (Int × Int)))) = some _ := hm
              replace hq := someE hq
              subst hq
              exact eX_J (fun hst => ⟨l493, A494, cap495, fp496, rfl, Fr.of hst (by kernel_rfl), F500, F501, G502, hB, hZ⟩)
      · rintro a' w619 ⟨l620, A621, cap622, fp623, hJ, hF625, F626, F627, G628, hB, hZ⟩
        subst hJ
        refine Fr.goX hF625 (by kernel_rfl) ?_
        refine eX_block ?_
        refine eX_then ?_
        refine cW_region ?_
        refine wS_pure 2 [(9, .int .i64 (wr (x498 + 1))), (57, .int .i64 (wr (x498 + 1)))] (by kernel_rfl) ?_
        refine wS_end (by rfl) ?_
        have hq : (some (Ctl.next ((l620, wr (x498 + 1)))) : Option (Ctl ((List (Int × Int)) × Int) ((List (Int × Int))))) = some _ := hm
        replace hq := someE hq
        subst hq
        exact eX_next hx508 (fun hst => ⟨l620, A621, cap622, fp623, wr (x498 + 1), rfl, Fr.of hst (by kernel_rfl), F626, F627, G628, hB, hZ⟩)
    · have hm := condF hb509 hm
      refine cW_exit ?_
      refine eX_then_exit ?_
      have hq : (some (Ctl.out l493) : Option (Ctl ((List (Int × Int)) × Int) ((List (Int × Int))))) = some _ := hm
      replace hq := someE hq
      subst hq
      refine eX_outX hx508 (fun hr740 => ?_)
      replace hr740 := hr740.symm
      subst hr740
      refine eX_block_hit ?_
      exact eX_J (fun hst => ⟨l493, A494, cap495, fp496, rfl, Fr.of hst (by kernel_rfl), F501, G502, hB, hZ⟩)
  · rintro a' w483 ⟨l484, A485, cap486, fp487, hJ, hF489, F490, G491, hB, hZ⟩
    subst hJ
    refine Fr.goX hF489 (by kernel_rfl) ?_
    refine eX_then ?_
    refine cW_seq ?_
    refine cW_region ?_
    refine wS_pure 2 [(2, .slice A485 (l484).length cap486), (58, .slice A485 (l484).length cap486)] (by kernel_rfl) ?_
    refine wS_end (by rfl) ?_
    refine eX_then ?_
    refine cW_ret ?_
    have hq : (some l484 : Option ((List (Int × Int)))) = some _ := hm
    replace hq := someE hq
    subst hq
    refine eX_ret (vs := [.slice A485 (l484).length cap486]) [.tmp 2] (by rfl) ⟨by (show lkE _ _ _ = _); kernel_rfl, trivial⟩ ?_
    exact ⟨A485, cap486, fp487, rfl, F490, G491, hB⟩

set_option maxRecDepth 100000 in
/-- impl.BendsOf -/
theorem c_impl_BendsOf {w0 : World} {l0 : List (Int × Int)} {A0 : Option Addr} {cap0 : Nat} {fp0 : List Nat} {r : (Int) × (Bool)} (hm : m_impl_BendsOf l0 = some r) (F0 : Sl 2 encII w0 fp0 A0 l0) :
    Calls Try.prog 31 #[.slice A0 (l0).length cap0] w0 fun e w' => e = .returned (.tuple #[.int .i64 (r.1), .bool (r.2)]) ∧ Chg [] w0 w' := by
  have L0 := F0.low
  have hB : Chg [] w0 w0 := Chg.refl _ _
  have hZ := Nat.le_refl w0.heap.size
  unfold m_impl_BendsOf at hm
  refine enterE (N := 12) Try.func31 (by rfl) Try.ntmps31 (by simp) [(0, .slice A0 (l0).length cap0)] (by rfl) (by kernel_rfl) (fun a => ?_)
  refine cW_seq ?_
  refine cW_region ?_
  refine wS_pure 2 [(3, .bool (false)), (2, .int .i64 (0))] (by kernel_rfl) ?_
  refine wS_end (by rfl) ?_
  refine eX_then ?_
  refine cW_seq ?_
  refine cW_seq ?_
  refine cW_region ?_
  refine wS_pure 1 [(4, .slice A0 (l0).length cap0)] (by kernel_rfl) ?_
  obtain ⟨y2, hy3, hm⟩ := bindE hm
  refine wS_calls (d := 5) (f := 23) (vs := [.slice A0 (l0).length cap0]) (by kernel_rfl) ent23 (c_impl_IsPath hy3 F0) ?_
  rintro _ w4 ⟨rfl, hc5⟩
  replace F0 := F0.chg hc5 Dj.nil
  replace hB := hB.inS hc5 inNil
  replace hZ := Nat.le_trans hZ hc5.size
  refine ⟨.bool (y2), rfl, ?_⟩
  refine wS_pure 1 [(6, .bool (!y2))] (by kernel_rfl) ?_
  refine wS_end (by rfl) ?_
  refine eX_then ?_
  refine cW_cond (t := !y2) (by kernel_rfl) (fun hb6 => ?_) (fun hb6 => ?_)
  · have hm := condT hb6 hm
    refine cW_seq ?_
    refine cW_region ?_
    refine wS_pure 2 [(3, .bool (false)), (2, .int .i64 (0))] (by kernel_rfl) ?_
    refine wS_end (by rfl) ?_
    refine eX_then ?_
    refine cW_ret ?_
    refine eX_then_ret ?_
    have hq : (some ((0, false)) : Option ((Int) × (Bool))) = some _ := hm
    replace hq := someE hq
    subst hq
    refine eX_ret (vs := [.int .i64 (0), .bool (false)]) [.tmp 2, .tmp 3] (by rfl) ⟨by (show lkE _ _ _ = _); kernel_rfl, ⟨by (show lkE _ _ _ = _); kernel_rfl, trivial⟩⟩ ?_
    exact ⟨rfl, hB⟩
  · have hm := condF hb6 hm
    refine cW_skip ?_
    refine eX_then ?_
    refine cW_seq ?_
    refine cW_region ?_
    refine wS_pure 1 [(7, .slice A0 (l0).length cap0)] (by kernel_rfl) ?_
    obtain ⟨y7, hy8, hm⟩ := bindE hm
    refine wS_calls (d := 8) (f := 82) (vs := [.slice A0 (l0).length cap0]) (by kernel_rfl) ent82 (c_impl_corners hy8 F0) ?_
    rintro _ w9 ⟨A11, cap12, fp13, rfl, F14, G15, hc10⟩
    replace F0 := F0.chg hc10 Dj.nil
    replace hB := hB.inS hc10 inNil
    replace G15 := low_le hZ G15
    replace hZ := Nat.le_trans hZ hc10.size
    refine ⟨.slice A11 (y7).length cap12, rfl, ?_⟩
    refine wS_pure 5 [(3, .bool (true)), (2, .int .i64 (if 0 > (wr ((((y7).length : Int)) - 2)) then 0 else (wr ((((y7).length : Int)) - 2)))), (11, .int .i64 (if 0 > (wr ((((y7).length : Int)) - 2)) then 0 else (wr ((((y7).length : Int)) - 2)))), (10, .int .i64 (wr ((((y7).length : Int)) - 2))), (9, .int .i64 (((y7).length : Int)))] (by kernel_rfl) ?_
    refine wS_end (by rfl) ?_
    refine eX_then ?_
    refine cW_ret ?_
    have hq : (some ((if 0 > (wr ((((y7).length : Int)) - 2)) then 0 else (wr ((((y7).length : Int)) - 2)), true)) : Option ((Int) × (Bool))) = some _ := hm
    replace hq := someE hq
    subst hq
    refine eX_ret (vs := [.int .i64 (if 0 > (wr ((((y7).length : Int)) - 2)) then 0 else (wr ((((y7).length : Int)) - 2))), .bool (true)]) [.tmp 2, .tmp 3] (by rfl) ⟨by (show lkE _ _ _ = _); kernel_rfl, ⟨by (show lkE _ _ _ = _); kernel_rfl, trivial⟩⟩ ?_
    exact ⟨rfl, hB⟩

set_option maxRecDepth 100000 in
/-- laws.markPointS -/
theorem c_laws_markPointS {w0 : World} {l0 : List (Int × Int)} {A0 : Option Addr} {cap0 : Nat} {fp0 : List Nat} {p1 : Int} {r : (Int) × (List (Int × Int))} (hm : m_laws_markPointS l0 p1 = some r) (F0 : Ow 2 encII 34 w0 fp0 A0 cap0 l0) :
    Calls Try.prog 36 #[.slice A0 (l0).length cap0, .int .i64 (p1)] w0 fun e w' => e = .returned (.int .i64 (r.1)) ∧ Ow 2 encII 34 w' fp0 A0 cap0 r.2 ∧ (r.2).length = (l0).length ∧ Chg (fp0 ++ []) w0 w' := by
  have L0 := F0.low
  have hB : Chg (fp0 ++ []) w0 w0 := Chg.refl _ _
  have hZ := Nat.le_refl w0.heap.size
  unfold m_laws_markPointS at hm
  refine enterE (N := 27) Try.func36 (by rfl) Try.ntmps36 (by simp) [(0, .slice A0 (l0).length cap0), (1, .int .i64 (p1))] (by rfl) (by kernel_rfl) (fun a => ?_)
  refine cW_seq ?_
  refine cW_region ?_
  refine wS_pure 1 [(4, .int .i64 (0))] (by kernel_rfl) ?_
  refine wS_end (by rfl) ?_
  refine eX_then ?_
  refine cW_seq ?_
  refine cW_seq ?_
  refine cW_region ?_
  refine wS_pure 1 [(5, .int .i64 (0))] (by kernel_rfl) ?_
  refine wS_end (by rfl) ?_
  refine eX_then ?_
  obtain ⟨r49, hr50, hm⟩ := bindE hm
  have hm51 := hm
  refine cW_cut (fun a' w' => ∃ x37 : Int, ∃ l38 : List (Int × Int), (x37, l38) = r49 ∧ Fr 27 [(1, .int .i64 (x37))] a' ∧ Ow 2 encII 34 w' fp0 A0 cap0 l38 ∧ (l38).length = (l0).length ∧ Chg (fp0 ++ []) w0 w' ∧ w0.heap.size ≤ w'.heap.size) ?_ ?_
  · refine cW_block ?_
    refine cW_loop _ (fun (s52 : Int × Int × (List (Int × Int))) a' w' => ∃ x43 : Int, ∃ x44 : Int, ∃ l45 : List (Int × Int), (x43, x44, l45) = s52 ∧ Fr 27 [(0, .slice A0 (l45).length cap0), (1, .int .i64 (x43)), (5, .int .i64 (x44))] a' ∧ Ow 2 encII 34 w' fp0 A0 cap0 l45 ∧ (l45).length = (l0).length ∧ Chg (fp0 ++ []) w0 w' ∧ w0.heap.size ≤ w'.heap.size) hr50 (fun hst => ⟨p1, 0, l0, rfl, Fr.of hst (by kernel_rfl), F0, (Eq.refl (l0).length), hB, hZ⟩) ?_
    rintro _ c53 a' w42 ⟨x43, x44, l45, rfl, hF46, F47, hl48, hB, hZ⟩ hx54
    refine Fr.goOn hF46 (by kernel_rfl) ?_
    have hm := hx54
    unfold m_laws_markPointS_s1 at hm
    refine cW_seq ?_
    refine cW_seq ?_
    refine cW_region ?_
    refine wS_pure 4 [(9, .bool (decide (x44 < (((l45).length : Int))))), (8, .int .i64 (((l45).length : Int))), (7, .slice A0 (l45).length cap0), (6, .int .i64 (x44))] (by kernel_rfl) ?_
    refine wS_end (by rfl) ?_
    refine eX_then ?_
    refine cW_cond (t := decide (x44 < (((l45).length : Int)))) (by kernel_rfl) (fun hb55 => ?_) (fun hb55 => ?_)
    · have hm := condT hb55 hm
      refine cW_skip ?_
      refine eX_then ?_
      refine cW_seq ?_
      refine cW_block ?_
      refine cW_seq ?_
      refine cW_region ?_
      refine wS_pure 3 [(14, .int .i64 (x43)), (13, .int .i64 (x44)), (12, .slice A0 (l45).length cap0)] (by kernel_rfl) ?_
      obtain ⟨x56, hx57, hm⟩ := bindE hm
      refine wS_idx (d := 15) (T := 25) (A := A0) (n := (l45).length) (cap := cap0) (kd := .i64) (m := x44) (by kernel_rfl) sl25 ((F47.sl encII_ok).is hx57) ?_
      refine wS_pure 1 [(16, .pointer (some (elA A0 2 (x44) 0)))] (by kernel_rfl) ?_
      refine wS_storeEl (x := x56) ((x43, x56.2)) (T := 2) (U := 34) (cap := cap0) (j := 0) (A := A0) (v := .int .i64 (x43)) (vs := [.int .i64 (x43)]) (m := x44) (by kernel_rfl) (by rfl) sz2 (by rfl) encII_ok F47 hx57 (by simp only [List.length_cons, List.length_nil]; omega) (by rfl) ?_
      intro w58 F59 hc60
      replace hB := hB.inS hc60 (inMem (fun x hx => (List.mem_append_left _ hx)))
      replace hZ := Nat.le_trans hZ hc60.size
      clear F47
      have hl61 := (show (l45.set (Int.toNat x44) ((x43, x56.2))).length = (l45).length from List.length_set ..).trans hl48
      rewrite [show (l45).length = (l45.set (Int.toNat x44) ((x43, x56.2))).length from (List.length_set ..).symm]
      refine wS_end (by rfl) ?_
      refine eX_then ?_
      refine cW_seq ?_
      refine cW_region ?_
      refine wS_pure 3 [(1, .int .i64 (wr (x43 + 1))), (18, .int .i64 (wr (x43 + 1))), (17, .int .i64 (x43))] (by kernel_rfl) ?_
      refine wS_end (by rfl) ?_
      refine eX_then ?_
      refine cW_seq ?_
      refine cW_region ?_
      refine wS_pure 3 [(21, .int .i64 (wr (x43 + 1))), (20, .int .i64 (x44)), (19, .slice A0 (l45.set (Int.toNat x44) ((x43, x56.2))).length cap0)] (by kernel_rfl) ?_
      obtain ⟨x62, hx63, hm⟩ := bindE hm
      refine wS_idx (d := 22) (T := 25) (A := A0) (n := (l45.set (Int.toNat x44) ((x43, x56.2))).length) (cap := cap0) (kd := .i64) (m := x44) (by kernel_rfl) sl25 ((F59.sl encII_ok).is hx63) ?_
      refine wS_pure 1 [(23, .pointer (some (elA A0 2 (x44) 1)))] (by kernel_rfl) ?_
      refine wS_storeEl (x := x62) ((x62.1, wr (x43 + 1))) (T := 2) (U := 34) (cap := cap0) (j := 1) (A := A0) (v := .int .i64 (wr (x43 + 1))) (vs := [.int .i64 (wr (x43 + 1))]) (m := x44) (by kernel_rfl) (by rfl) sz2 (by rfl) encII_ok F59 hx63 (by simp only [List.length_cons, List.length_nil]; omega) (by rfl) ?_
      intro w64 F65 hc66
      replace hB := hB.inS hc66 (inMem (fun x hx => (List.mem_append_left _ hx)))
      replace hZ := Nat.le_trans hZ hc66.size
      clear F59
      have hl67 := (show ((l45.set (Int.toNat x44) ((x43, x56.2))).set (Int.toNat x44) ((x62.1, wr (x43 + 1)))).length = (l45.set (Int.toNat x44) ((x43, x56.2))).length from List.length_set ..).trans hl61
      rewrite [show (l45.set (Int.toNat x44) ((x43, x56.2))).length = ((l45.set (Int.toNat x44) ((x43, x56.2))).set (Int.toNat x44) ((x62.1, wr (x43 + 1)))).length from (List.length_set ..).symm]
      refine wS_end (by rfl) ?_
      refine eX_then ?_
      refine cW_region ?_
      refine wS_pure 3 [(1, .int .i64 (wr ((wr (x43 + 1)) + 1))), (25, .int .i64 (wr ((wr (x43 + 1)) + 1))), (24, .int .i64 (wr (x43 + 1)))] (by kernel_rfl) ?_
      refine wS_end (by rfl) ?_
      refine eX_block ?_
      refine eX_then ?_
      refine cW_region ?_
      refine wS_pure 3 [(5, .int .i64 (wr (x44 + 1))), (11, .int .i64 (wr (x44 + 1))), (10, .int .i64 (x44))] (by kernel_rfl) ?_
      refine wS_end (by rfl) ?_
      have hq : (some (Ctl.next ((wr ((wr (x43 + 1)) + 1), wr (x44 + 1), (l45.set (Int.toNat x44) ((x43, x56.2))).set (Int.toNat x44) ((x62.1, wr (x43 + 1)))))) : Option (Ctl (Int × Int × (List (Int × Int))) (Int × (List (Int × Int))))) = some _ := hm
      replace hq := someE hq
      subst hq
      exact eX_next hx54 (fun hst => ⟨wr ((wr (x43 + 1)) + 1), wr (x44 + 1), (l45.set (Int.toNat x44) ((x43, x56.2))).set (Int.toNat x44) ((x62.1, wr (x43 + 1))), rfl, Fr.of hst (by kernel_rfl), F65, hl67, hB, hZ⟩)
    · have hm := condF hb55 hm
      refine cW_exit ?_
      refine eX_then_exit ?_
      have hq : (some (Ctl.out ((x43, l45))) : Option (Ctl (Int × Int × (List (Int × Int))) (Int × (List (Int × Int))))) = some _ := hm
      replace hq := someE hq
      subst hq
      refine eX_outX hx54 (fun hr68 => ?_)
      replace hr68 := hr68.symm
      subst hr68
      refine eX_block_hit ?_
      exact eX_J (fun hst => ⟨x43, l45, rfl, Fr.of hst (by kernel_rfl), F47, hl48, hB, hZ⟩)
  · rintro a' w36 ⟨x37, l38, hJ, hF39, F40, hl41, hB, hZ⟩
    subst hJ
    refine Fr.goX hF39 (by kernel_rfl) ?_
    refine eX_then ?_
    refine cW_seq ?_
    refine cW_region ?_
    refine wS_pure 2 [(4, .int .i64 (x37)), (26, .int .i64 (x37))] (by kernel_rfl) ?_
    refine wS_end (by rfl) ?_
    refine eX_then ?_
    refine cW_ret ?_
    have hq : (some ((x37, l38)) : Option ((Int) × (List (Int × Int)))) = some _ := hm
    replace hq := someE hq
    subst hq
    refine eX_ret (vs := [.int .i64 (x37)]) [.tmp 4] (by rfl) ⟨by (show lkE _ _ _ = _); kernel_rfl, trivial⟩ ?_
    exact ⟨rfl, F40, hl41, hB⟩

set_option maxRecDepth 100000 in
/-- laws.heldPointS -/
theorem c_laws_heldPointS {w0 : World} {l0 : List (Int × Int)} {A0 : Option Addr} {cap0 : Nat} {fp0 : List Nat} {p1 : Int} {r : (Int)} (hm : m_laws_heldPointS l0 p1 = some r) (F0 : Sl 2 encII w0 fp0 A0 l0) :
    Calls Try.prog 37 #[.slice A0 (l0).length cap0, .int .i64 (p1)] w0 fun e w' => e = .returned (.int .i64 (r)) ∧ Chg [] w0 w' := by
  have L0 := F0.low
  have hB : Chg [] w0 w0 := Chg.refl _ _
  have hZ := Nat.le_refl w0.heap.size
  unfold m_laws_heldPointS at hm
  refine enterE (N := 31) Try.func37 (by rfl) Try.ntmps37 (by simp) [(0, .slice A0 (l0).length cap0), (1, .int .i64 (p1))] (by rfl) (by kernel_rfl) (fun a => ?_)
  refine cW_seq ?_
  refine cW_region ?_
  refine wS_pure 1 [(4, .int .i64 (0))] (by kernel_rfl) ?_
  refine wS_end (by rfl) ?_
  refine eX_then ?_
  refine cW_seq ?_
  refine cW_seq ?_
  refine cW_region ?_
  refine wS_pure 1 [(5, .int .i64 (0))] (by kernel_rfl) ?_
  refine wS_end (by rfl) ?_
  refine eX_then ?_
  obtain ⟨r34, hr35, hm⟩ := bindE hm
  have hm36 := hm
  refine cW_cut (fun a' w' => ∃ x27 : Int, Sum.inl x27 = r34 ∧ Fr 31 [(1, .int .i64 (x27))] a' ∧ Chg [] w0 w' ∧ w0.heap.size ≤ w'.heap.size) ?_ ?_
  · refine cW_block ?_
    refine cW_loop _ (fun (s37 : Int × Int) a' w' => ∃ x30 : Int, ∃ x31 : Int, (x30, x31) = s37 ∧ Fr 31 [(0, .slice A0 (l0).length cap0), (1, .int .i64 (x30)), (5, .int .i64 (x31))] a' ∧ Sl 2 encII w' fp0 A0 l0 ∧ Chg [] w0 w' ∧ w0.heap.size ≤ w'.heap.size) hr35 (fun hst => ⟨p1, 0, rfl, Fr.of hst (by kernel_rfl), F0, hB, hZ⟩) ?_
    rintro _ c38 a' w29 ⟨x30, x31, rfl, hF32, F33, hB, hZ⟩ hx39
    refine Fr.goOn hF32 (by kernel_rfl) ?_
    have hm := hx39
    unfold m_laws_heldPointS_s1 at hm
    refine cW_seq ?_
    refine cW_seq ?_
    refine cW_region ?_
    refine wS_pure 4 [(9, .bool (decide (x31 < (((l0).length : Int))))), (8, .int .i64 (((l0).length : Int))), (7, .slice A0 (l0).length cap0), (6, .int .i64 (x31))] (by kernel_rfl) ?_
    refine wS_end (by rfl) ?_
    refine eX_then ?_
    refine cW_cond (t := decide (x31 < (((l0).length : Int)))) (by kernel_rfl) (fun hb40 => ?_) (fun hb40 => ?_)
    · have hm := condT hb40 hm
      refine cW_skip ?_
      refine eX_then ?_
      refine cW_seq ?_
      refine cW_block ?_
      refine cW_seq ?_
      refine cW_seq ?_
      refine cW_region ?_
      refine wS_pure 2 [(13, .int .i64 (x31)), (12, .slice A0 (l0).length cap0)] (by kernel_rfl) ?_
      obtain ⟨x41, hx42, hm⟩ := bindE hm
      refine wS_idx (d := 14) (T := 25) (A := A0) (n := (l0).length) (cap := cap0) (kd := .i64) (m := x31) (by kernel_rfl) sl25 (F33.is hx42) ?_
      refine wS_pure 1 [(15, .pointer (some (elA A0 2 (x31) 0)))] (by kernel_rfl) ?_
      refine wS_load1 (d := 16) (T := 2) (ad := (elA A0 2 (x31) 0)) (v := .int .i64 (x41.1)) (by kernel_rfl) vt2 (Sl.cell F33 hx42 0 (by rfl)) ?_
      refine wS_pure 2 [(18, .bool (x41.1 != x30)), (17, .int .i64 (x30))] (by kernel_rfl) ?_
      refine wS_end (by rfl) ?_
      refine eX_then ?_
      refine cW_cond (t := x41.1 != x30) (by kernel_rfl) (fun hb43 => ?_) (fun hb43 => ?_)
      · have hm := condT hb43 hm
        refine cW_seq ?_
        refine cW_region ?_
        refine wS_pure 1 [(4, .int .i64 ((-1)))] (by kernel_rfl) ?_
        refine wS_end (by rfl) ?_
        refine eX_then ?_
        refine cW_ret ?_
        refine eX_then_ret ?_
        refine eX_block_ret ?_
        refine eX_then_ret ?_
        have hq : (some (Ctl.out (Sum.inr ((-1)))) : Option (Ctl (Int × Int) (Sum (Int) ((Int))))) = some _ := hm
        replace hq := someE hq
        subst hq
        refine eX_outR hx39 (fun hr => ?_)
        subst hr
        refine eX_block_ret ?_
        refine eX_then_ret ?_
        refine eX_then_ret ?_
        have hq : (some ((-1)) : Option ((Int))) = some _ := hm36
        replace hq := someE hq
        subst hq
        refine eX_ret (vs := [.int .i64 ((-1))]) [.tmp 4] (by rfl) ⟨by (show lkE _ _ _ = _); kernel_rfl, trivial⟩ ?_
        exact ⟨rfl, hB⟩
      · have hm := condF hb43 hm
        refine cW_skip ?_
        refine eX_then ?_
        refine cW_seq ?_
        refine cW_region ?_
        refine wS_pure 3 [(1, .int .i64 (wr (x30 + 1))), (20, .int .i64 (wr (x30 + 1))), (19, .int .i64 (x30))] (by kernel_rfl) ?_
        refine wS_end (by rfl) ?_
        refine eX_then ?_
        refine cW_seq ?_
        refine cW_seq ?_
        refine cW_region ?_
        refine wS_pure 2 [(22, .int .i64 (x31)), (21, .slice A0 (l0).length cap0)] (by kernel_rfl) ?_
        obtain ⟨x44, hx45, hm⟩ := bindE hm
        refine wS_idx (d := 23) (T := 25) (A := A0) (n := (l0).length) (cap := cap0) (kd := .i64) (m := x31) (by kernel_rfl) sl25 (F33.is hx45) ?_
        refine wS_pure 1 [(24, .pointer (some (elA A0 2 (x31) 1)))] (by kernel_rfl) ?_
        refine wS_load1 (d := 25) (T := 2) (ad := (elA A0 2 (x31) 1)) (v := .int .i64 (x44.2)) (by kernel_rfl) vt2 (Sl.cell F33 hx45 1 (by rfl)) ?_
        refine wS_pure 2 [(27, .bool (x44.2 != (wr (x30 + 1)))), (26, .int .i64 (wr (x30 + 1)))] (by kernel_rfl) ?_
        refine wS_end (by rfl) ?_
        refine eX_then ?_
        refine cW_cond (t := x44.2 != (wr (x30 + 1))) (by kernel_rfl) (fun hb46 => ?_) (fun hb46 => ?_)
        · have hm := condT hb46 hm
          refine cW_seq ?_
          refine cW_region ?_
          refine wS_pure 1 [(4, .int .i64 ((-1)))] (by kernel_rfl) ?_
          refine wS_end (by rfl) ?_
          refine eX_then ?_
          refine cW_prune [(4, .int .i64 ((-1)))] (by kernel_rfl) (by kernel_rfl) (fun a47 => ?_)
          refine cW_ret ?_
          refine eX_then_ret ?_
          refine eX_block_ret ?_
          refine eX_then_ret ?_
          have hq : (some (Ctl.out (Sum.inr ((-1)))) : Option (Ctl (Int × Int) (Sum (Int) ((Int))))) = some _ := hm
          replace hq := someE hq
          subst hq
          refine eX_outR hx39 (fun hr => ?_)
          subst hr
          refine eX_block_ret ?_
          refine eX_then_ret ?_
          refine eX_then_ret ?_
          have hq : (some ((-1)) : Option ((Int))) = some _ := hm36
          replace hq := someE hq
          subst hq
          refine eX_ret (vs := [.int .i64 ((-1))]) [.tmp 4] (by rfl) ⟨by (show lkE _ _ _ = _); kernel_rfl, trivial⟩ ?_
          exact ⟨rfl, hB⟩
        · have hm := condF hb46 hm
          refine cW_skip ?_
          refine eX_then ?_
          refine cW_region ?_
          refine wS_pure 3 [(1, .int .i64 (wr ((wr (x30 + 1)) + 1))), (29, .int .i64 (wr ((wr (x30 + 1)) + 1))), (28, .int .i64 (wr (x30 + 1)))] (by kernel_rfl) ?_
          refine wS_end (by rfl) ?_
          refine eX_block ?_
          refine eX_then ?_
          refine cW_prune [(0, .slice A0 (l0).length cap0), (1, .int .i64 (wr ((wr (x30 + 1)) + 1))), (5, .int .i64 (x31))] (by kernel_rfl) (by kernel_rfl) (fun a48 => ?_)
          refine cW_region ?_
          refine wS_pure 3 [(5, .int .i64 (wr (x31 + 1))), (11, .int .i64 (wr (x31 + 1))), (10, .int .i64 (x31))] (by kernel_rfl) ?_
          refine wS_end (by rfl) ?_
          have hq : (some (Ctl.next ((wr ((wr (x30 + 1)) + 1), wr (x31 + 1)))) : Option (Ctl (Int × Int) (Sum (Int) ((Int))))) = some _ := hm
          replace hq := someE hq
          subst hq
          exact eX_next hx39 (fun hst => ⟨wr ((wr (x30 + 1)) + 1), wr (x31 + 1), rfl, Fr.of hst (by kernel_rfl), F33, hB, hZ⟩)
    · have hm := condF hb40 hm
      refine cW_exit ?_
      refine eX_then_exit ?_
      have hq : (some (Ctl.out (Sum.inl x30)) : Option (Ctl (Int × Int) (Sum (Int) ((Int))))) = some _ := hm
      replace hq := someE hq
      subst hq
      refine eX_outX hx39 (fun hr49 => ?_)
      replace hr49 := hr49.symm
      subst hr49
      refine eX_block_hit ?_
      exact eX_J (fun hst => ⟨x30, rfl, Fr.of hst (by kernel_rfl), hB, hZ⟩)
  · rintro a' w26 ⟨x27, hJ, hF28, hB, hZ⟩
    subst hJ
    refine Fr.goX hF28 (by kernel_rfl) ?_
    refine eX_then ?_
    refine cW_seq ?_
    refine cW_region ?_
    refine wS_pure 2 [(4, .int .i64 (x27)), (30, .int .i64 (x27))] (by kernel_rfl) ?_
    refine wS_end (by rfl) ?_
    refine eX_then ?_
    refine cW_ret ?_
    have hq : (some x27 : Option ((Int))) = some _ := hm
    replace hq := someE hq
    subst hq
    refine eX_ret (vs := [.int .i64 (x27)]) [.tmp 4] (by rfl) ⟨by (show lkE _ _ _ = _); kernel_rfl, trivial⟩ ?_
    exact ⟨rfl, hB⟩

set_option maxRecDepth 100000 in
/-- spec.l01Corners -/
theorem c_spec_l01Corners {w0 : World} {l0 : List (Int × Int)} {A0 : Option Addr} {cap0 : Nat} {fp0 : List Nat} {r : (List (Int × Int))} (hm : m_spec_l01Corners l0 = some r) (F0 : Sl 2 encII w0 fp0 A0 l0) :
    Calls Try.prog 90 #[.slice A0 (l0).length cap0] w0 fun e w' => ∃ A100 cap100 fp100, e = .returned (.slice A100 (r).length cap100) ∧ Ow 2 encII 34 w' fp100 A100 cap100 r ∧ (∀ x ∈ fp100, w0.heap.size ≤ x) ∧ Chg [] w0 w' := by
  have L0 := F0.low
  have hB : Chg [] w0 w0 := Chg.refl _ _
  have hZ := Nat.le_refl w0.heap.size
  unfold m_spec_l01Corners at hm
  refine enterE (N := 34) Try.func90 (by rfl) Try.ntmps90 (by simp) [(0, .slice A0 (l0).length cap0)] (by rfl) (by kernel_rfl) (fun a => ?_)
  refine cW_seq ?_
  refine cW_region ?_
  refine wS_pure 1 [(2, .slice none 0 0)] (by kernel_rfl) ?_
  refine wS_end (by rfl) ?_
  refine eX_then ?_
  refine cW_seq ?_
  refine cW_region ?_
  refine wS_bs0 (α := Int × Int) (enc := encII) (d := 5) (t := 25) (T := 34) (by kernel_rfl) el25 ?_
  intro b2 w3 G4 F5 hc6
  replace F0 := F0.chg hc6 Dj.nil
  replace hB := hB.inS hc6 inNil
  replace G4 := Nat.le_trans hZ G4
  replace G4 := low1 G4
  replace hZ := Nat.le_trans hZ hc6.size
  refine wS_pure 1 [(3, .slice (some ⟨b2, 0, none⟩) (([] : List (Int × Int))).length 0)] (by kernel_rfl) ?_
  refine wS_end (by rfl) ?_
  refine eX_then ?_
  refine cW_seq ?_
  refine cW_seq ?_
  refine cW_region ?_
  refine wS_pure 1 [(4, .int .i64 (0))] (by kernel_rfl) ?_
  refine wS_end (by rfl) ?_
  refine eX_then ?_
  obtain ⟨r335, hr336, hm⟩ := bindE hm
  have hm337 := hm
  refine cW_cut (fun a' w' => ∃ l316 : List (Int × Int), ∃ A317 : Option Addr, ∃ cap318 : Nat, ∃ fp319 : List Nat, l316 = r335 ∧ Fr 34 [(3, .slice A317 (l316).length cap318)] a' ∧ Ow 2 encII 34 w' fp319 A317 cap318 l316 ∧ (∀ x ∈ fp319, w0.heap.size ≤ x) ∧ Chg [] w0 w' ∧ w0.heap.size ≤ w'.heap.size) ?_ ?_
  · refine cW_block ?_
    refine cW_loop _ (fun (s338 : (List (Int × Int)) × Int) a' w' => ∃ l325 : List (Int × Int), ∃ A326 : Option Addr, ∃ cap327 : Nat, ∃ fp328 : List Nat, ∃ x330 : Int, (l325, x330) = s338 ∧ Fr 34 [(0, .slice A0 (l0).length cap0), (3, .slice A326 (l325).length cap327), (4, .int .i64 (x330))] a' ∧ Sl 2 encII w' fp0 A0 l0 ∧ Ow 2 encII 34 w' fp328 A326 cap327 l325 ∧ (∀ x ∈ fp328, w0.heap.size ≤ x) ∧ Chg [] w0 w' ∧ w0.heap.size ≤ w'.heap.size) hr336 (fun hst => ⟨([] : List (Int × Int)), (some ⟨b2, 0, none⟩), 0, [b2], 0, rfl, Fr.of hst (by kernel_rfl), F0, F5, G4, hB, hZ⟩) ?_
    rintro _ c339 a' w324 ⟨l325, A326, cap327, fp328, x330, rfl, hF331, F332, F333, G334, hB, hZ⟩ hx340
    refine Fr.goOn hF331 (by kernel_rfl) ?_
    have hm := hx340
    unfold m_spec_l01Corners_s1 at hm
    refine cW_seq ?_
    refine cW_seq ?_
    refine cW_region ?_
    refine wS_pure 4 [(9, .bool (decide (x330 < (((l0).length : Int))))), (8, .int .i64 (((l0).length : Int))), (7, .slice A0 (l0).length cap0), (6, .int .i64 (x330))] (by kernel_rfl) ?_
    refine wS_end (by rfl) ?_
    refine eX_then ?_
    refine cW_cond (t := decide (x330 < (((l0).length : Int)))) (by kernel_rfl) (fun hb341 => ?_) (fun hb341 => ?_)
    · have hm := condT hb341 hm
      refine cW_skip ?_
      refine eX_then ?_
      refine cW_seq ?_
      refine cW_block ?_
      obtain ⟨s419, hs420, hm⟩ := bindE hm
      refine cW_cut (fun a' w' => ∃ l410 : List (Int × Int), ∃ A411 : Option Addr, ∃ cap412 : Nat, ∃ fp413 : List Nat, l410 = s419 ∧ Fr 34 [(0, .slice A0 (l0).length cap0), (3, .slice A411 (l410).length cap412), (4, .int .i64 (x330))] a' ∧ Sl 2 encII w' fp0 A0 l0 ∧ Ow 2 encII 34 w' fp413 A411 cap412 l410 ∧ (∀ x ∈ fp413, w0.heap.size ≤ x) ∧ Chg [] w0 w' ∧ w0.heap.size ≤ w'.heap.size) ?_ ?_
      · have hm := hs420
        refine cW_seq ?_
        refine cW_region ?_
        refine wS_pure 3 [(14, .bool (x330 == 0)), (13, .bool (x330 == 0)), (12, .int .i64 (x330))] (by kernel_rfl) ?_
        refine wS_bool (x330 == 0) (fun hb421 => ?_) (fun hb421 => ?_)
        · have hm := condT hb421 hm
          rewrite [hb421]
          refine wS_pure 11 [(25, .bool (true)), (24, undef), (23, undef), (22, undef), (21, .bool (true)), (20, .bool (true)), (19, undef), (18, undef), (17, undef), (16, undef), (15, undef)] (by kernel_rfl) ?_
          refine wS_end (by rfl) ?_
          refine eX_then ?_
          refine cW_cond_t (by kernel_rfl) ?_
          refine cW_region ?_
          refine wS_pure 3 [(28, .int .i64 (x330)), (27, .slice A0 (l0).length cap0), (26, .slice A326 (l325).length cap327)] (by kernel_rfl) ?_
          obtain ⟨x422, hx423, hm⟩ := bindE hm
          refine wS_idx (d := 29) (T := 25) (A := A0) (n := (l0).length) (cap := cap0) (kd := .i64) (m := x330) (by kernel_rfl) sl25 (F332.is hx423) ?_
          refine wS_loadA (d := 30) (T := 34) (ad := (elA A0 2 (x330) 0)) (vs := [.int .i64 (x422.1), .int .i64 (x422.2)]) (by kernel_rfl) vt34 (fun i u hu => Sl.cells_at F332 hx423 0 hu (by rfl)) ?_
          refine wS_bs (enc := encII) ([(x422.1, x422.2)] : List (Int × Int)) [.int .i64 (x422.1), .int .i64 (x422.2)] (d := 31) (t := 25) (T := 34) (n := 1) (ps := [(0, .agg #[.int .i64 (x422.1), .int .i64 (x422.2)])]) (by kernel_rfl) el25 encII_ok (by rfl) (by omega) (by omega) (by kernel_rfl) (by rfl) ?_
          intro b424 w425 G426 F427 hc428
          have D430 : Dj fp328 [b424] := Dj.of F333.low (low1 G426)
          replace F332 := F332.chg hc428 Dj.nil
          replace F333 := F333.chg hc428 Dj.nil
          replace hB := hB.inS hc428 inNil
          replace G426 := Nat.le_trans hZ G426
          replace G426 := low1 G426
          replace hZ := Nat.le_trans hZ hc428.size
          obtain ⟨_, hk431, hm⟩ := bindE hm
          replace hk431 := apE hk431
          refine wS_append (enc := encII) (l := (l325 : List (Int × Int))) (l2 := (([(x422.1, x422.2)] : List (Int × Int)) : List (Int × Int))) (d := 32) (t := 25) (T := 34) (A := A326) (A2 := (some ⟨b424, 0, none⟩)) (cap := cap327) (cap2 := 1) (by kernel_rfl) el25 encII_ok F333 (F427.sl encII_ok) (by rfl) hk431 ?_
          intro w432 fp433 A434 cap435 F436 hc437 hp438
          have G440 := low_ap G334 hZ hp438
          have D441 : Dj [b424] fp433 := Dj.ap (D430).symm F427.low hp438
          replace F332 := F332.chg hc437 (Dj.of L0 G334)
          replace F427 := F427.chg hc437 (D430).symm
          replace hB := hB.inS hc437 (inLow G334)
          replace hZ := Nat.le_trans hZ hc437.size
          refine wS_pure 1 [(3, .slice A434 (l325 ++ (([(x422.1, x422.2)] : List (Int × Int)))).length cap435)] (by kernel_rfl) ?_
          refine wS_end (by rfl) ?_
          have hq : (some (l325 ++ (([(x422.1, x422.2)] : List (Int × Int)))) : Option ((List (Int × Int)))) = some _ := hm
          replace hq := someE hq
          subst hq
          exact eX_J (fun hst => ⟨l325 ++ (([(x422.1, x422.2)] : List (Int × Int))), A434, cap435, fp433, rfl, Fr.of hst (by kernel_rfl), F332, F436, G440, hB, hZ⟩)
        · have hm := condF hb421 hm
          rewrite [hb421]
          refine wS_pure 7 [(21, .bool (x330 == (wr ((((l0).length : Int)) - 1)))), (20, .bool (x330 == (wr ((((l0).length : Int)) - 1)))), (19, .bool (x330 == (wr ((((l0).length : Int)) - 1)))), (18, .int .i64 (wr ((((l0).length : Int)) - 1))), (17, .int .i64 (((l0).length : Int))), (16, .slice A0 (l0).length cap0), (15, .int .i64 (x330))] (by kernel_rfl) ?_
          refine wS_bool (x330 == (wr ((((l0).length : Int)) - 1))) (fun hb442 => ?_) (fun hb442 => ?_)
          · have hm := condT hb442 hm
            rewrite [hb442]
            refine wS_pure 4 [(25, .bool (true)), (24, undef), (23, undef), (22, undef)] (by kernel_rfl) ?_
            refine wS_end (by rfl) ?_
            refine eX_then ?_
            refine cW_cond_t (by kernel_rfl) ?_
            refine cW_region ?_
            refine wS_pure 3 [(28, .int .i64 (x330)), (27, .slice A0 (l0).length cap0), (26, .slice A326 (l325).length cap327)] (by kernel_rfl) ?_
            obtain ⟨x443, hx444, hm⟩ := bindE hm
            refine wS_idx (d := 29) (T := 25) (A := A0) (n := (l0).length) (cap := cap0) (kd := .i64) (m := x330) (by kernel_rfl) sl25 (F332.is hx444) ?_
            refine wS_loadA (d := 30) (T := 34) (ad := (elA A0 2 (x330) 0)) (vs := [.int .i64 (x443.1), .int .i64 (x443.2)]) (by kernel_rfl) vt34 (fun i u hu => Sl.cells_at F332 hx444 0 hu (by rfl)) ?_
            refine wS_bs (enc := encII) ([(x443.1, x443.2)] : List (Int × Int)) [.int .i64 (x443.1), .int .i64 (x443.2)] (d := 31) (t := 25) (T := 34) (n := 1) (ps := [(0, .agg #[.int .i64 (x443.1), .int .i64 (x443.2)])]) (by kernel_rfl) el25 encII_ok (by rfl) (by omega) (by omega) (by kernel_rfl) (by rfl) ?_
            intro b445 w446 G447 F448 hc449
            have D451 : Dj fp328 [b445] := Dj.of F333.low (low1 G447)
            replace F332 := F332.chg hc449 Dj.nil
            replace F333 := F333.chg hc449 Dj.nil
            replace hB := hB.inS hc449 inNil
            replace G447 := Nat.le_trans hZ G447
            replace G447 := low1 G447
            replace hZ := Nat.le_trans hZ hc449.size
            obtain ⟨_, hk452, hm⟩ := bindE hm
            replace hk452 := apE hk452
            refine wS_append (enc := encII) (l := (l325 : List (Int × Int))) (l2 := (([(x443.1, x443.2)] : List (Int × Int)) : List (Int × Int))) (d := 32) (t := 25) (T := 34) (A := A326) (A2 := (some ⟨b445, 0, none⟩)) (cap := cap327) (cap2 := 1) (by kernel_rfl) el25 encII_ok F333 (F448.sl encII_ok) (by rfl) hk452 ?_
            intro w453 fp454 A455 cap456 F457 hc458 hp459
            have G461 := low_ap G334 hZ hp459
            have D462 : Dj [b445] fp454 := Dj.ap (D451).symm F448.low hp459
            replace F332 := F332.chg hc458 (Dj.of L0 G334)
            replace F448 := F448.chg hc458 (D451).symm
            replace hB := hB.inS hc458 (inLow G334)
            replace hZ := Nat.le_trans hZ hc458.size
            refine wS_pure 1 [(3, .slice A455 (l325 ++ (([(x443.1, x443.2)] : List (Int × Int)))).length cap456)] (by kernel_rfl) ?_
            refine wS_end (by rfl) ?_
            have hq : (some (l325 ++ (([(x443.1, x443.2)] : List (Int × Int)))) : Option ((List (Int × Int)))) = some _ := hm
            replace hq := someE hq
            subst hq
            exact eX_J (fun hst => ⟨l325 ++ (([(x443.1, x443.2)] : List (Int × Int))), A455, cap456, fp454, rfl, Fr.of hst (by kernel_rfl), F332, F457, G461, hB, hZ⟩)
          · have hm := condF hb442 hm
            rewrite [hb442]
            refine wS_pure 2 [(23, .int .i64 (x330)), (22, .slice A0 (l0).length cap0)] (by kernel_rfl) ?_
            obtain ⟨y463, hy464, hm⟩ := bindE hm
            refine wS_calls (d := 24) (f := 81) (vs := [.slice A0 (l0).length cap0, .int .i64 (x330)]) (by kernel_rfl) ent81 (c_spec_l01Bend hy464 F332) ?_
            rintro _ w465 ⟨rfl, hc466⟩
            replace F332 := F332.chg hc466 Dj.nil
            replace F333 := F333.chg hc466 Dj.nil
            replace hB := hB.inS hc466 inNil
            replace hZ := Nat.le_trans hZ hc466.size
            refine ⟨.bool (y463), rfl, ?_⟩
            refine wS_pure 1 [(25, .bool (y463))] (by kernel_rfl) ?_
            refine wS_end (by rfl) ?_
            refine eX_then ?_
            refine cW_cond (t := y463) (by kernel_rfl) (fun hb467 => ?_) (fun hb467 => ?_)
            · have hm := condT hb467 hm
              refine cW_region ?_
              refine wS_pure 3 [(28, .int .i64 (x330)), (27, .slice A0 (l0).length cap0), (26, .slice A326 (l325).length cap327)] (by kernel_rfl) ?_
              obtain ⟨x468, hx469, hm⟩ := bindE hm
              refine wS_idx (d := 29) (T := 25) (A := A0) (n := (l0).length) (cap := cap0) (kd := .i64) (m := x330) (by kernel_rfl) sl25 (F332.is hx469) ?_
              refine wS_loadA (d := 30) (T := 34) (ad := (elA A0 2 (x330) 0)) (vs := [.int .i64 (x468.1), .int .i64 (x468.2)]) (by kernel_rfl) vt34 (fun i u hu => Sl.cells_at F332 hx469 0 hu (by rfl)) ?_
              refine wS_bs (enc := encII) ([(x468.1, x468.2)] : List (Int × Int)) [.int .i64 (x468.1), .int .i64 (x468.2)] (d := 31) (t := 25) (T := 34) (n := 1) (ps := [(0, .agg #[.int .i64 (x468.1), .int .i64 (x468.2)])]) (by kernel_rfl) el25 encII_ok (by rfl) (by omega) (by omega) (by kernel_rfl) (by rfl) ?_
              intro b470 w471 G472 F473 hc474
              have D476 : Dj fp328 [b470] := Dj.of F333.low (low1 G472)
              replace F332 := F332.chg hc474 Dj.nil
              replace F333 := F333.chg hc474 Dj.nil
              replace hB := hB.inS hc474 inNil
              replace G472 := Nat.le_trans hZ G472
              replace G472 := low1 G472
              replace hZ := Nat.le_trans hZ hc474.size
              obtain ⟨_, hk477, hm⟩ := bindE hm
              replace hk477 := apE hk477
              refine wS_append (enc := encII) (l := (l325 : List (Int × Int))) (l2 := (([(x468.1, x468.2)] : List (Int × Int)) : List (Int × Int))) (d := 32) (t := 25) (T := 34) (A := A326) (A2 := (some ⟨b470, 0, none⟩)) (cap := cap327) (cap2 := 1) (by kernel_rfl) el25 encII_ok F333 (F473.sl encII_ok) (by rfl) hk477 ?_
              intro w478 fp479 A480 cap481 F482 hc483 hp484
              have G486 := low_ap G334 hZ hp484
              have D487 : Dj [b470] fp479 := Dj.ap (D476).symm F473.low hp484
              replace F332 := F332.chg hc483 (Dj.of L0 G334)
              replace F473 := F473.chg hc483 (D476).symm
              replace hB := hB.inS hc483 (inLow G334)
              replace hZ := Nat.le_trans hZ hc483.size
              refine wS_pure 1 [(3, .slice A480 (l325 ++ (([(x468.1, x468.2)] : List (Int × Int)))).length cap481)] (by kernel_rfl) ?_
              refine wS_end (by rfl) ?_
              have hq : (some (l325 ++ (([(x468.1, x468.2)] : List (Int × Int)))) : Option ((List (Int × Int)))) = some _ := hm
              replace hq := someE hq
              subst hq
              exact eX_J (fun hst => ⟨l325 ++ (([(x468.1, x468.2)] : List (Int × Int))), A480, cap481, fp479, rfl, Fr.of hst (by kernel_rfl), F332, F482, G486, hB, hZ⟩)
            · have hm := condF hb467 hm
              refine cW_skip ?_
              have hq : (some l325 : Option ((List (Int × Int)))) = some _ := hm
              replace hq := someE hq
              subst hq
              exact eX_J (fun hst => ⟨l325, A326, cap327, fp328, rfl, Fr.of hst (by kernel_rfl), F332, F333, G334, hB, hZ⟩)
      · rintro a' w409 ⟨l410, A411, cap412, fp413, hJ, hF415, F416, F417, G418, hB, hZ⟩
        subst hJ
        refine Fr.goX hF415 (by kernel_rfl) ?_
        refine eX_block ?_
        refine eX_then ?_
        refine cW_region ?_
        refine wS_pure 3 [(4, .int .i64 (wr (x330 + 1))), (11, .int .i64 (wr (x330 + 1))), (10, .int .i64 (x330))] (by kernel_rfl) ?_
        refine wS_end (by rfl) ?_
        have hq : (some (Ctl.next ((l410, wr (x330 + 1)))) : Option (Ctl ((List (Int × Int)) × Int) ((List (Int × Int))))) = some _ := hm
        replace hq := someE hq
        subst hq
        exact eX_next hx340 (fun hst => ⟨l410, A411, cap412, fp413, wr (x330 + 1), rfl, Fr.of hst (by kernel_rfl), F416, F417, G418, hB, hZ⟩)
    · have hm := condF hb341 hm
      refine cW_exit ?_
      refine eX_then_exit ?_
      have hq : (some (Ctl.out l325) : Option (Ctl ((List (Int × Int)) × Int) ((List (Int × Int))))) = some _ := hm
      replace hq := someE hq
      subst hq
      refine eX_outX hx340 (fun hr488 => ?_)
      replace hr488 := hr488.symm
      subst hr488
      refine eX_block_hit ?_
      exact eX_J (fun hst => ⟨l325, A326, cap327, fp328, rfl, Fr.of hst (by kernel_rfl), F333, G334, hB, hZ⟩)
  · rintro a' w315 ⟨l316, A317, cap318, fp319, hJ, hF321, F322, G323, hB, hZ⟩
    subst hJ
    refine Fr.goX hF321 (by kernel_rfl) ?_
    refine eX_then ?_
    refine cW_seq ?_
    refine cW_region ?_
    refine wS_pure 2 [(2, .slice A317 (l316).length cap318), (33, .slice A317 (l316).length cap318)] (by kernel_rfl) ?_
    refine wS_end (by rfl) ?_
    refine eX_then ?_
    refine cW_ret ?_
    have hq : (some l316 : Option ((List (Int × Int)))) = some _ := hm
    replace hq := someE hq
    subst hq
    refine eX_ret (vs := [.slice A317 (l316).length cap318]) [.tmp 2] (by rfl) ⟨by (show lkE _ _ _ = _); kernel_rfl, trivial⟩ ?_
    exact ⟨A317, cap318, fp319, rfl, F322, G323, hB⟩

set_option maxRecDepth 100000 in
/-- impl.CornersOf -/
theorem c_impl_CornersOf {w0 : World} {l0 : List (Int × Int)} {A0 : Option Addr} {cap0 : Nat} {fp0 : List Nat} {r : (List (Int × Int)) × (Bool)} (hm : m_impl_CornersOf l0 = some r) (F0 : Sl 2 encII w0 fp0 A0 l0) :
    Calls Try.prog 39 #[.slice A0 (l0).length cap0] w0 fun e w' => ∃ A100 cap100 fp100, e = .returned (.tuple #[.slice A100 (r.1).length cap100, .bool (r.2)]) ∧ Ow 2 encII 34 w' fp100 A100 cap100 r.1 ∧ (∀ x ∈ fp100, w0.heap.size ≤ x) ∧ Chg [] w0 w' := by
  have L0 := F0.low
  have hB : Chg [] w0 w0 := Chg.refl _ _
  have hZ := Nat.le_refl w0.heap.size
  unfold m_impl_CornersOf at hm
  refine enterE (N := 9) Try.func39 (by rfl) Try.ntmps39 (by simp) [(0, .slice A0 (l0).length cap0)] (by rfl) (by kernel_rfl) (fun a => ?_)
  refine cW_seq ?_
  refine cW_region ?_
  refine wS_pure 2 [(3, .bool (false)), (2, .slice none 0 0)] (by kernel_rfl) ?_
  refine wS_end (by rfl) ?_
  refine eX_then ?_
  refine cW_seq ?_
  refine cW_seq ?_
  refine cW_region ?_
  refine wS_pure 1 [(4, .slice A0 (l0).length cap0)] (by kernel_rfl) ?_
  obtain ⟨y2, hy3, hm⟩ := bindE hm
  refine wS_calls (d := 5) (f := 23) (vs := [.slice A0 (l0).length cap0]) (by kernel_rfl) ent23 (c_impl_IsPath hy3 F0) ?_
  rintro _ w4 ⟨rfl, hc5⟩
  replace F0 := F0.chg hc5 Dj.nil
  replace hB := hB.inS hc5 inNil
  replace hZ := Nat.le_trans hZ hc5.size
  refine ⟨.bool (y2), rfl, ?_⟩
  refine wS_pure 1 [(6, .bool (!y2))] (by kernel_rfl) ?_
  refine wS_end (by rfl) ?_
  refine eX_then ?_
  refine cW_cond (t := !y2) (by kernel_rfl) (fun hb6 => ?_) (fun hb6 => ?_)
  · have hm := condT hb6 hm
    refine cW_seq ?_
    refine cW_region ?_
    refine wS_pure 2 [(3, .bool (false)), (2, .slice none 0 0)] (by kernel_rfl) ?_
    refine wS_end (by rfl) ?_
    refine eX_then ?_
    refine cW_ret ?_
    refine eX_then_ret ?_
    have hq : (some (([], false)) : Option ((List (Int × Int)) × (Bool))) = some _ := hm
    replace hq := someE hq
    subst hq
    refine eX_ret (vs := [.slice none 0 0, .bool (false)]) [.tmp 2, .tmp 3] (by rfl) ⟨by (show lkE _ _ _ = _); kernel_rfl, ⟨by (show lkE _ _ _ = _); kernel_rfl, trivial⟩⟩ ?_
    exact ⟨none, 0, [], rfl, Ow.nil _, lowNil, hB⟩
  · have hm := condF hb6 hm
    refine cW_skip ?_
    refine eX_then ?_
    refine cW_seq ?_
    refine cW_region ?_
    refine wS_pure 1 [(7, .slice A0 (l0).length cap0)] (by kernel_rfl) ?_
    obtain ⟨y7, hy8, hm⟩ := bindE hm
    refine wS_calls (d := 8) (f := 82) (vs := [.slice A0 (l0).length cap0]) (by kernel_rfl) ent82 (c_impl_corners hy8 F0) ?_
    rintro _ w9 ⟨A11, cap12, fp13, rfl, F14, G15, hc10⟩
    replace F0 := F0.chg hc10 Dj.nil
    replace hB := hB.inS hc10 inNil
    replace G15 := low_le hZ G15
    replace hZ := Nat.le_trans hZ hc10.size
    refine ⟨.slice A11 (y7).length cap12, rfl, ?_⟩
    refine wS_pure 2 [(3, .bool (true)), (2, .slice A11 (y7).length cap12)] (by kernel_rfl) ?_
    refine wS_end (by rfl) ?_
    refine eX_then ?_
    refine cW_ret ?_
    have hq : (some ((y7, true)) : Option ((List (Int × Int)) × (Bool))) = some _ := hm
    replace hq := someE hq
    subst hq
    refine eX_ret (vs := [.slice A11 (y7).length cap12, .bool (true)]) [.tmp 2, .tmp 3] (by rfl) ⟨by (show lkE _ _ _ = _); kernel_rfl, ⟨by (show lkE _ _ _ = _); kernel_rfl, trivial⟩⟩ ?_
    exact ⟨A11, cap12, fp13, rfl, F14, G15, hB⟩

set_option maxRecDepth 100000 in
/-- laws.b10Long -/
theorem c_laws_b10Long {w0 : World} {l0 : List (Int)} {A0 : Option Addr} {cap0 : Nat} {fp0 : List Nat} {l1 : List (Int)} {A1 : Option Addr} {cap1 : Nat} {fp1 : List Nat} {r : (Bool)} (hm : m_laws_b10Long l0 l1 = some r) (F0 : Sl 1 encU w0 fp0 A0 l0) (F1 : Sl 1 encU w0 fp1 A1 l1) :
    Calls Try.prog 43 #[.slice A0 (l0).length cap0, .slice A1 (l1).length cap1] w0 fun e w' => e = .returned (.bool (r)) ∧ Chg [] w0 w' := by
  have L0 := F0.low
  have L1 := F1.low
  have hB : Chg [] w0 w0 := Chg.refl _ _
  have hZ := Nat.le_refl w0.heap.size
  unfold m_laws_b10Long at hm
  refine enterE (N := 13) Try.func43 (by rfl) Try.ntmps43 (by simp) [(0, .slice A0 (l0).length cap0), (1, .slice A1 (l1).length cap1)] (by rfl) (by kernel_rfl) (fun a => ?_)
  refine cW_seq ?_
  refine cW_region ?_
  refine wS_pure 1 [(4, .bool (false))] (by kernel_rfl) ?_
  refine wS_end (by rfl) ?_
  refine eX_then ?_
  refine cW_seq ?_
  refine cW_region ?_
  refine wS_pure 4 [(8, .bool (decide ((((l0).length : Int)) > 1048576))), (7, .bool (decide ((((l0).length : Int)) > 1048576))), (6, .int .i64 (((l0).length : Int))), (5, .slice A0 (l0).length cap0)] (by kernel_rfl) ?_
  refine wS_bool (decide ((((l0).length : Int)) > 1048576)) (fun hb3 => ?_) (fun hb3 => ?_)
  · have hm := condT hb3 hm
    rewrite [hb3]
    refine wS_pure 5 [(4, .bool (true)), (12, .bool (true)), (11, undef), (10, undef), (9, undef)] (by kernel_rfl) ?_
    refine wS_end (by rfl) ?_
    refine eX_then ?_
    refine cW_ret ?_
    have hq : (some true : Option ((Bool))) = some _ := hm
    replace hq := someE hq
    subst hq
    refine eX_ret (vs := [.bool (true)]) [.tmp 4] (by rfl) ⟨by (show lkE _ _ _ = _); kernel_rfl, trivial⟩ ?_
    exact ⟨rfl, hB⟩
  · have hm := condF hb3 hm
    rewrite [hb3]
    refine wS_pure 5 [(4, .bool (decide ((((l1).length : Int)) > 1048576))), (12, .bool (decide ((((l1).length : Int)) > 1048576))), (11, .bool (decide ((((l1).length : Int)) > 1048576))), (10, .int .i64 (((l1).length : Int))), (9, .slice A1 (l1).length cap1)] (by kernel_rfl) ?_
    refine wS_end (by rfl) ?_
    refine eX_then ?_
    refine cW_ret ?_
    have hq : (some (decide ((((l1).length : Int)) > 1048576)) : Option ((Bool))) = some _ := hm
    replace hq := someE hq
    subst hq
    refine eX_ret (vs := [.bool (decide ((((l1).length : Int)) > 1048576))]) [.tmp 4] (by rfl) ⟨by (show lkE _ _ _ = _); kernel_rfl, trivial⟩ ?_
    exact ⟨rfl, hB⟩

set_option maxRecDepth 100000 in
/-- spec.l00From -/
theorem c_spec_l00From {w0 : World} {l0 : List (Int)} {A0 : Option Addr} {cap0 : Nat} {fp0 : List Nat} {r : (Int × Int)} (hm : m_spec_l00From l0 = some r) (F0 : Sl 1 encU w0 fp0 A0 l0) :
    Calls Try.prog 91 #[.slice A0 (l0).length cap0] w0 fun e w' => ∃ b100, e = .returned (.pointer (some ⟨b100, 0, none⟩)) ∧ Cl w' b100 98 [.slice A0 (l0).length cap0, .int .i64 (r.1), .int .u64 (r.2)] ∧ w0.heap.size ≤ b100 ∧ Chg [] w0 w' := by
  have L0 := F0.low
  have hB : Chg [] w0 w0 := Chg.refl _ _
  have hZ := Nat.le_refl w0.heap.size
  unfold m_spec_l00From at hm
  refine enterE (N := 6) Try.func91 (by rfl) Try.ntmps91 (by simp) [(0, .slice A0 (l0).length cap0)] (by rfl) (by kernel_rfl) (fun a => ?_)
  refine cW_seq ?_
  refine cW_region ?_
  refine wS_pure 1 [(2, .pointer none)] (by kernel_rfl) ?_
  refine wS_end (by rfl) ?_
  refine eX_then ?_
  refine cW_seq ?_
  refine cW_region ?_
  refine wS_pure 2 [(4, .agg #[.slice A0 (l0).length cap0, .int .i64 (0), .int .u64 (0)]), (3, .slice A0 (l0).length cap0)] (by kernel_rfl) ?_
  refine wS_box (d := 5) (T := 98) (x := .agg #[.slice A0 (l0).length cap0, .int .i64 (0), .int .u64 (0)]) (by kernel_rfl) ?_
  intro b2 w3 G4 F5 hc6
  replace F5 : Cl w3 b2 98 [.slice A0 (l0).length cap0, .int .i64 (0), .int .u64 (0)] := F5
  replace F0 := F0.chg hc6 Dj.nil
  replace hB := hB.inS hc6 inNil
  replace G4 := Nat.le_trans hZ G4
  replace hZ := Nat.le_trans hZ hc6.size
  refine wS_pure 1 [(2, .pointer (some ⟨b2, 0, none⟩))] (by kernel_rfl) ?_
  refine wS_end (by rfl) ?_
  refine eX_then ?_
  refine cW_ret ?_
  have hq : (some ((0, 0)) : Option ((Int × Int))) = some _ := hm
  replace hq := someE hq
  subst hq
  refine eX_ret (vs := [.pointer (some ⟨b2, 0, none⟩)]) [.tmp 2] (by rfl) ⟨by (show lkE _ _ _ = _); kernel_rfl, trivial⟩ ?_
  exact ⟨b2, rfl, F5, G4, hB⟩

set_option maxRecDepth 100000 in
/-- spec.l00Src).next -/
theorem c_spec_l00Src_next_bspecl00Src {w0 : World} {l0_0 : List (Int)} {A0_0 : Option Addr} {cap0_0 : Nat} {fp0_0 : List Nat} {q0_1 : Int} {q0_2 : Int} {b0 : Nat} {r : (Int) × (Int) × (Int)} (hm : m_spec_l00Src_next_bspecl00Src l0_0 q0_1 q0_2 = some r) (F0_0 : Sl 1 encU w0 fp0_0 A0_0 l0_0) (F0 : Cl w0 b0 98 [.slice A0_0 (l0_0).length cap0_0, .int .i64 (q0_1), .int .u64 (q0_2)]) (J0__0_0 : Dj [b0] fp0_0) :
    Calls Try.prog 128 #[.pointer (some ⟨b0, 0, none⟩)] w0 fun e w' => e = .returned (.int .i64 (r.1)) ∧ Cl w' b0 98 [.slice A0_0 (l0_0).length cap0_0, .int .i64 (r.2.1), .int .u64 (r.2.2)] ∧ Chg ([b0] ++ []) w0 w' := by
  have L0_0 := F0_0.low
  have L0 := lt1 F0.lt
  have hB : Chg ([b0] ++ []) w0 w0 := Chg.refl _ _
  have hZ := Nat.le_refl w0.heap.size
  unfold m_spec_l00Src_next_bspecl00Src at hm
  refine enterE (N := 62) Try.func128 (by rfl) Try.ntmps128 (by simp) [(0, .pointer (some ⟨b0, 0, none⟩))] (by rfl) (by kernel_rfl) (fun a => ?_)
  refine cW_seq ?_
  refine cW_region ?_
  refine wS_pure 1 [(2, .int .i64 (0))] (by kernel_rfl) ?_
  refine wS_end (by rfl) ?_
  refine eX_then ?_
  refine cW_seq ?_
  refine cW_region ?_
  refine wS_pure 1 [(3, .int .i64 (0))] (by kernel_rfl) ?_
  refine wS_end (by rfl) ?_
  refine eX_then ?_
  refine cW_seq ?_
  obtain ⟨s29, hs30, hm⟩ := bindE hm
  refine cW_cut (fun a' w' => ∃ x25 : Int, x25 = s29 ∧ Fr 62 [(0, .pointer (some ⟨b0, 0, none⟩)), (3, .int .i64 (x25))] a' ∧ Sl 1 encU w' fp0_0 A0_0 l0_0 ∧ Cl w' b0 98 [.slice A0_0 (l0_0).length cap0_0, .int .i64 (q0_1), .int .u64 (q0_2)] ∧ Chg ([b0] ++ []) w0 w' ∧ w0.heap.size ≤ w'.heap.size) ?_ ?_
  · have hm := hs30
    refine cW_seq ?_
    refine cW_drawnTail [] 9 (by kernel_rfl) (by kernel_rfl) (fun w35 hc36 => ?_)
    replace F0_0 := F0_0.chg hc36 Dj.nil
    replace F0 := F0.chg hc36 notNil
    replace hB := hB.inS hc36 inNil
    replace hZ := Nat.le_trans hZ hc36.size
    have hS := Chg.refl [] w35
    have Z37 := F0_0
    have Z38 := F0
    refine wH_take [0, 1, 2] [2, 1, 0] [(6, .pointer (some ⟨b0, 1, none⟩)), (5, .pointer (some ⟨b0, 0, none⟩)), (4, .pointer (some ⟨b0, 0, none⟩))] (by kernel_rfl) (qT (qT (qT (qT qZ)))) (by kernel_rfl) ?_
    refine wH_load1 (i := 3) (d := 7) (T := 3) (ad := ⟨b0, 1, none⟩) (v := .int .i64 (q0_1)) (by kernel_rfl) (qT (qT (qT (qT qZ)))) (by kernel_rfl) (by kernel_rfl) vt3 (fun W hW => (Z38.chg hW notNil).cell 1) ?_
    refine wH_take [4, 5, 6] [6, 5, 4, 3, 2, 1, 0] [(10, .pointer (some ⟨b0, 0, none⟩)), (9, .pointer (some ⟨b0, 0, none⟩)), (8, .pointer (some ⟨b0, 0, none⟩))] (by kernel_rfl) (qT (qT (qT (qT qZ)))) (by kernel_rfl) ?_
    refine wH_load1 (i := 7) (d := 11) (T := 43) (ad := ⟨b0, 0, none⟩) (v := .slice A0_0 (l0_0).length cap0_0) (by kernel_rfl) (qT (qT (qT (qT qZ)))) (by kernel_rfl) (by kernel_rfl) vt43 (fun W hW => (Z38.chg hW notNil).cell 0) ?_
    refine wH_take [8] [8, 7, 6, 5, 4, 3, 2, 1, 0] [(12, .int .i64 (((l0_0).length : Int)))] (by kernel_rfl) (qT (qT (qT (qT qZ)))) (by kernel_rfl) ?_
    refine wH_done (by kernel_rfl) ?_
    refine eX_tail ?_
    refine wS_pure 1 [(13, .bool (decide (q0_1 < (((l0_0).length : Int)))))] (by kernel_rfl) ?_
    refine wS_end (by rfl) ?_
    refine eX_then ?_
    refine cW_cond (t := decide (q0_1 < (((l0_0).length : Int)))) (by kernel_rfl) (fun hb39 => ?_) (fun hb39 => ?_)
    · have hm := condT hb39 hm
      refine cW_drawnTail [] 8 (by kernel_rfl) (by kernel_rfl) (fun w46 hc47 => ?_)
      replace F0_0 := F0_0.chg hc47 Dj.nil
      replace F0 := F0.chg hc47 notNil
      replace hB := hB.inS hc47 inNil
      replace hZ := Nat.le_trans hZ hc47.size
      have hS := Chg.refl [] w46
      have Z48 := F0_0
      have Z49 := F0
      refine wH_take [0, 1, 2] [2, 1, 0] [(16, .pointer (some ⟨b0, 0, none⟩)), (15, .pointer (some ⟨b0, 0, none⟩)), (14, .pointer (some ⟨b0, 0, none⟩))] (by kernel_rfl) (qT (qT (qT qZ))) (by kernel_rfl) ?_
      refine wH_load1 (i := 3) (d := 17) (T := 43) (ad := ⟨b0, 0, none⟩) (v := .slice A0_0 (l0_0).length cap0_0) (by kernel_rfl) (qT (qT (qT qZ))) (by kernel_rfl) (by kernel_rfl) vt43 (fun W hW => (Z49.chg hW notNil).cell 0) ?_
      refine wH_take [4, 5, 6] [6, 5, 4, 3, 2, 1, 0] [(20, .pointer (some ⟨b0, 1, none⟩)), (19, .pointer (some ⟨b0, 0, none⟩)), (18, .pointer (some ⟨b0, 0, none⟩))] (by kernel_rfl) (qT (qT (qT qZ))) (by kernel_rfl) ?_
      refine wH_load1 (i := 7) (d := 21) (T := 3) (ad := ⟨b0, 1, none⟩) (v := .int .i64 (q0_1)) (by kernel_rfl) (qT (qT (qT qZ))) (by kernel_rfl) (by kernel_rfl) vt3 (fun W hW => (Z49.chg hW notNil).cell 1) ?_
      refine wH_done (by kernel_rfl) ?_
      refine eX_tail ?_
      obtain ⟨x50, hx51, hm⟩ := bindE hm
      refine wS_idx (d := 22) (T := 43) (A := A0_0) (n := (l0_0).length) (cap := cap0_0) (kd := .i64) (m := q0_1) (by kernel_rfl) sl43 (F0_0.is hx51) ?_
      refine wS_load1 (d := 23) (T := 5) (ad := (elA A0_0 1 (q0_1) 0)) (v := .int .u8 (x50)) (by kernel_rfl) vt5 (Sl.cell F0_0 hx51 0 (by rfl)) ?_
      refine wS_pure 2 [(3, .int .i64 (wr x50)), (24, .int .i64 (wr x50))] (by kernel_rfl) ?_
      refine wS_end (by rfl) ?_
      have hq : (some (wr x50) : Option (Int)) = some _ := hm
      replace hq := someE hq
      subst hq
      exact eX_J (fun hst => ⟨wr x50, rfl, Fr.of hst (by kernel_rfl), F0_0, F0, hB, hZ⟩)
    · have hm := condF hb39 hm
      refine cW_skip ?_
      have hq : (some 0 : Option (Int)) = some _ := hm
      replace hq := someE hq
      subst hq
      exact eX_J (fun hst => ⟨0, rfl, Fr.of hst (by kernel_rfl), F0_0, F0, hB, hZ⟩)
  · rintro a' w24 ⟨x25, hJ, hF26, F27, F28, hB, hZ⟩
    subst hJ
    refine Fr.goX hF26 (by kernel_rfl) ?_
    refine eX_then ?_
    refine cW_seq ?_
    refine cW_region ?_
    refine wS_pure 3 [(27, .pointer (some ⟨b0, 1, none⟩)), (26, .pointer (some ⟨b0, 0, none⟩)), (25, .pointer (some ⟨b0, 0, none⟩))] (by kernel_rfl) ?_
    refine wS_load1 (d := 28) (T := 3) (ad := ⟨b0, 1, none⟩) (v := .int .i64 (q0_1)) (by kernel_rfl) vt3 ((F28).cell 1) ?_
    refine wS_pure 3 [(31, .pointer (some ⟨b0, 1, none⟩)), (30, .pointer (some ⟨b0, 0, none⟩)), (29, .int .i64 (wr (q0_1 + 1)))] (by kernel_rfl) ?_
    refine wS_store (T := 3) (g := b0) (o := 1) (ad := ⟨b0, 1, none⟩) (v := .int .i64 (wr (q0_1 + 1))) (vs := [.int .i64 (wr (q0_1 + 1))]) (by kernel_rfl) (by rfl) sz3 (by rfl) (by rfl) F28 (by simp only [List.length_cons, List.length_nil]; omega) ?_
    intro w52 F53 hc54
    replace F27 := F27.chg hc54 (J0__0_0).symm
    replace hB := hB.inS hc54 (inMem (fun x hx => (List.mem_append_left _ hx)))
    replace hZ := Nat.le_trans hZ hc54.size
    replace F53 : Cl w52 b0 98 [.slice A0_0 (l0_0).length cap0_0, .int .i64 (wr (q0_1 + 1)), .int .u64 (q0_2)] := F53
    clear F28
    refine wS_end (by rfl) ?_
    refine eX_then ?_
    refine cW_seq ?_
    refine cW_region ?_
    refine wS_pure 4 [(35, .pointer (some ⟨b0, 2, none⟩)), (34, .pointer (some ⟨b0, 0, none⟩)), (33, .pointer (some ⟨b0, 0, none⟩)), (32, .pointer (some ⟨b0, 0, none⟩))] (by kernel_rfl) ?_
    refine wS_load1 (d := 36) (T := 96) (ad := ⟨b0, 2, none⟩) (v := .int .u64 (q0_2)) (by kernel_rfl) vt96 ((F53).cell 2) ?_
    refine wS_pure 7 [(43, .pointer (some ⟨b0, 2, none⟩)), (42, .pointer (some ⟨b0, 0, none⟩)), (41, .int .u64 (wu ((wu ((wu (q0_2 * 6364136223846793005)) + (wu x25))) + 1442695040888963407))), (40, .int .u64 (wu ((wu (q0_2 * 6364136223846793005)) + (wu x25)))), (39, .int .u64 (wu x25)), (38, .int .i64 (x25)), (37, .int .u64 (wu (q0_2 * 6364136223846793005)))] (by kernel_rfl) ?_
    refine wS_store (T := 96) (g := b0) (o := 2) (ad := ⟨b0, 2, none⟩) (v := .int .u64 (wu ((wu ((wu (q0_2 * 6364136223846793005)) + (wu x25))) + 1442695040888963407))) (vs := [.int .u64 (wu ((wu ((wu (q0_2 * 6364136223846793005)) + (wu x25))) + 1442695040888963407))]) (by kernel_rfl) (by rfl) sz96 (by rfl) (by rfl) F53 (by simp only [List.length_cons, List.length_nil]; omega) ?_
    intro w55 F56 hc57
    replace F27 := F27.chg hc57 (J0__0_0).symm
    replace hB := hB.inS hc57 (inMem (fun x hx => (List.mem_append_left _ hx)))
    replace hZ := Nat.le_trans hZ hc57.size
    replace F56 : Cl w55 b0 98 [.slice A0_0 (l0_0).length cap0_0, .int .i64 (wr (q0_1 + 1)), .int .u64 (wu ((wu ((wu (q0_2 * 6364136223846793005)) + (wu x25))) + 1442695040888963407))] := F56
    clear F53
    refine wS_end (by rfl) ?_
    refine eX_then ?_
    refine cW_seq ?_
    refine cW_seq ?_
    refine cW_drawnTail [] 9 (by kernel_rfl) (by kernel_rfl) (fun w62 hc63 => ?_)
    replace F27 := F27.chg hc63 Dj.nil
    replace F56 := F56.chg hc63 notNil
    replace hB := hB.inS hc63 inNil
    replace hZ := Nat.le_trans hZ hc63.size
    have hS := Chg.refl [] w62
    have Z64 := F27
    have Z65 := F56
    refine wH_take [0, 1, 2] [2, 1, 0] [(46, .pointer (some ⟨b0, 1, none⟩)), (45, .pointer (some ⟨b0, 0, none⟩)), (44, .pointer (some ⟨b0, 0, none⟩))] (by kernel_rfl) (qT (qT (qT qZ))) (by kernel_rfl) ?_
    refine wH_load1 (i := 3) (d := 47) (T := 3) (ad := ⟨b0, 1, none⟩) (v := .int .i64 (wr (q0_1 + 1))) (by kernel_rfl) (qT (qT (qT qZ))) (by kernel_rfl) (by kernel_rfl) vt3 (fun W hW => (Z65.chg hW notNil).cell 1) ?_
    refine wH_take [4, 5, 6] [6, 5, 4, 3, 2, 1, 0] [(50, .pointer (some ⟨b0, 0, none⟩)), (49, .pointer (some ⟨b0, 0, none⟩)), (48, .pointer (some ⟨b0, 0, none⟩))] (by kernel_rfl) (qT (qT (qT qZ))) (by kernel_rfl) ?_
    refine wH_load1 (i := 7) (d := 51) (T := 43) (ad := ⟨b0, 0, none⟩) (v := .slice A0_0 (l0_0).length cap0_0) (by kernel_rfl) (qT (qT (qT qZ))) (by kernel_rfl) (by kernel_rfl) vt43 (fun W hW => (Z65.chg hW notNil).cell 0) ?_
    refine wH_take [8] [8, 7, 6, 5, 4, 3, 2, 1, 0] [(52, .int .i64 (((l0_0).length : Int)))] (by kernel_rfl) (qT (qT (qT qZ))) (by kernel_rfl) ?_
    refine wH_done (by kernel_rfl) ?_
    refine eX_tail ?_
    refine wS_pure 1 [(53, .bool (decide ((wr (q0_1 + 1)) ≤ (((l0_0).length : Int)))))] (by kernel_rfl) ?_
    refine wS_end (by rfl) ?_
    refine eX_then ?_
    refine cW_prune [(0, .pointer (some ⟨b0, 0, none⟩)), (3, .int .i64 (x25)), (53, .bool (decide ((wr (q0_1 + 1)) ≤ (((l0_0).length : Int)))))] (by kernel_rfl) (by kernel_rfl) (fun a66 => ?_)
    refine cW_cond (t := decide ((wr (q0_1 + 1)) ≤ (((l0_0).length : Int)))) (by kernel_rfl) (fun hb67 => ?_) (fun hb67 => ?_)
    · have hm := condT hb67 hm
      refine cW_seq ?_
      refine cW_region ?_
      refine wS_pure 2 [(2, .int .i64 (x25)), (54, .int .i64 (x25))] (by kernel_rfl) ?_
      refine wS_end (by rfl) ?_
      refine eX_then ?_
      refine cW_ret ?_
      refine eX_then_ret ?_
      have hq : (some ((x25, wr (q0_1 + 1), wu ((wu ((wu (q0_2 * 6364136223846793005)) + (wu x25))) + 1442695040888963407))) : Option ((Int) × (Int) × (Int))) = some _ := hm
      replace hq := someE hq
      subst hq
      refine eX_ret (vs := [.int .i64 (x25)]) [.tmp 2] (by rfl) ⟨by (show lkE _ _ _ = _); kernel_rfl, trivial⟩ ?_
      exact ⟨rfl, F56, hB⟩
    · have hm := condF hb67 hm
      refine cW_skip ?_
      refine eX_then ?_
      refine cW_seq ?_
      refine cW_region ?_
      refine wS_pure 3 [(57, .pointer (some ⟨b0, 2, none⟩)), (56, .pointer (some ⟨b0, 0, none⟩)), (55, .pointer (some ⟨b0, 0, none⟩))] (by kernel_rfl) ?_
      refine wS_load1 (d := 58) (T := 96) (ad := ⟨b0, 2, none⟩) (v := .int .u64 (wu ((wu ((wu (q0_2 * 6364136223846793005)) + (wu x25))) + 1442695040888963407))) (by kernel_rfl) vt96 ((F56).cell 2) ?_
      refine wS_pure 4 [(2, .int .i64 (wr (andU (shrU (wu ((wu ((wu (q0_2 * 6364136223846793005)) + (wu x25))) + 1442695040888963407)) 40) 255))), (61, .int .i64 (wr (andU (shrU (wu ((wu ((wu (q0_2 * 6364136223846793005)) + (wu x25))) + 1442695040888963407)) 40) 255))), (60, .int .u64 (andU (shrU (wu ((wu ((wu (q0_2 * 6364136223846793005)) + (wu x25))) + 1442695040888963407)) 40) 255)), (59, .int .u64 (shrU (wu ((wu ((wu (q0_2 * 6364136223846793005)) + (wu x25))) + 1442695040888963407)) 40))] (by kernel_rfl) ?_
      refine wS_end (by rfl) ?_
      refine eX_then ?_
      refine cW_ret ?_
      have hq : (some ((wr (andU (shrU (wu ((wu ((wu (q0_2 * 6364136223846793005)) + (wu x25))) + 1442695040888963407)) 40) 255), wr (q0_1 + 1), wu ((wu ((wu (q0_2 * 6364136223846793005)) + (wu x25))) + 1442695040888963407))) : Option ((Int) × (Int) × (Int))) = some _ := hm
      replace hq := someE hq
      subst hq
      refine eX_ret (vs := [.int .i64 (wr (andU (shrU (wu ((wu ((wu (q0_2 * 6364136223846793005)) + (wu x25))) + 1442695040888963407)) 40) 255))]) [.tmp 2] (by rfl) ⟨by (show lkE _ _ _ = _); kernel_rfl, trivial⟩ ?_
      exact ⟨rfl, F56, hB⟩

set_option maxRecDepth 100000 in
/-- spec.l00Src).pick -/
theorem c_spec_l00Src_pick_bspecl00Src {w0 : World} {l0_0 : List (Int)} {A0_0 : Option Addr} {cap0_0 : Nat} {fp0_0 : List Nat} {q0_1 : Int} {q0_2 : Int} {b0 : Nat} {p1 : Int} {r : (Int) × (Int) × (Int)} (hm : m_spec_l00Src_pick_bspecl00Src l0_0 q0_1 q0_2 p1 = some r) (F0_0 : Sl 1 encU w0 fp0_0 A0_0 l0_0) (F0 : Cl w0 b0 98 [.slice A0_0 (l0_0).length cap0_0, .int .i64 (q0_1), .int .u64 (q0_2)]) (J0__0_0 : Dj [b0] fp0_0) :
    Calls Try.prog 93 #[.pointer (some ⟨b0, 0, none⟩), .int .i64 (p1)] w0 fun e w' => e = .returned (.int .i64 (r.1)) ∧ Cl w' b0 98 [.slice A0_0 (l0_0).length cap0_0, .int .i64 (r.2.1), .int .u64 (r.2.2)] ∧ Chg ([b0] ++ []) w0 w' := by
  have L0_0 := F0_0.low
  have L0 := lt1 F0.lt
  have hB : Chg ([b0] ++ []) w0 w0 := Chg.refl _ _
  have hZ := Nat.le_refl w0.heap.size
  unfold m_spec_l00Src_pick_bspecl00Src at hm
  refine enterE (N := 20) Try.func93 (by rfl) Try.ntmps93 (by simp) [(0, .pointer (some ⟨b0, 0, none⟩)), (1, .int .i64 (p1))] (by rfl) (by kernel_rfl) (fun a => ?_)
  refine cW_seq ?_
  refine cW_region ?_
  refine wS_pure 1 [(4, .int .i64 (0))] (by kernel_rfl) ?_
  refine wS_end (by rfl) ?_
  refine eX_then ?_
  refine cW_seq ?_
  refine cW_seq ?_
  refine cW_region ?_
  refine wS_pure 2 [(7, .bool (decide (p1 ≤ 1))), (6, .int .i64 (p1))] (by kernel_rfl) ?_
  refine wS_end (by rfl) ?_
  refine eX_then ?_
  refine cW_cond (t := decide (p1 ≤ 1)) (by kernel_rfl) (fun hb3 => ?_) (fun hb3 => ?_)
  · have hm := condT hb3 hm
    refine cW_seq ?_
    refine cW_region ?_
    refine wS_pure 1 [(4, .int .i64 (0))] (by kernel_rfl) ?_
    refine wS_end (by rfl) ?_
    refine eX_then ?_
    refine cW_ret ?_
    refine eX_then_ret ?_
    have hq : (some ((0, q0_1, q0_2)) : Option ((Int) × (Int) × (Int))) = some _ := hm
    replace hq := someE hq
    subst hq
    refine eX_ret (vs := [.int .i64 (0)]) [.tmp 4] (by rfl) ⟨by (show lkE _ _ _ = _); kernel_rfl, trivial⟩ ?_
    exact ⟨rfl, F0, hB⟩
  · have hm := condF hb3 hm
    refine cW_skip ?_
    refine eX_then ?_
    refine cW_seq ?_
    refine cW_region ?_
    refine wS_pure 1 [(8, .pointer (some ⟨b0, 0, none⟩))] (by kernel_rfl) ?_
    obtain ⟨y4, hy5, hm⟩ := bindE hm
    refine wS_calls (d := 9) (f := 128) (vs := [.pointer (some ⟨b0, 0, none⟩)]) (by kernel_rfl) ent128 (c_spec_l00Src_next_bspecl00Src hy5 F0_0 F0 J0__0_0) ?_
    rintro _ w6 ⟨rfl, F8, hc7⟩
    replace F0_0 := F0_0.chg hc7 (Dj.app (J0__0_0).symm Dj.nil)
    replace hB := hB.inS hc7 (inApp (inMem (fun x hx => (List.mem_append_left _ hx))) inNil)
    replace hZ := Nat.le_trans hZ hc7.size
    clear F0
    refine ⟨.int .i64 (y4.1), rfl, ?_⟩
    refine wS_pure 1 [(5, .int .i64 (y4.1))] (by kernel_rfl) ?_
    refine wS_end (by rfl) ?_
    refine eX_then ?_
    refine cW_seq ?_
    obtain ⟨s22, hs23, hm⟩ := bindE hm
    refine cW_cut (fun a' w' => ∃ x16 : Int, ∃ x17 : Int, ∃ x18 : Int, (x16, x17, x18) = s22 ∧ Fr 20 [(1, .int .i64 (p1)), (5, .int .i64 (x16))] a' ∧ Sl 1 encU w' fp0_0 A0_0 l0_0 ∧ Cl w' b0 98 [.slice A0_0 (l0_0).length cap0_0, .int .i64 (x17), .int .u64 (x18)] ∧ Chg ([b0] ++ []) w0 w' ∧ w0.heap.size ≤ w'.heap.size) ?_ ?_
    · have hm := hs23
      refine cW_seq ?_
      refine cW_region ?_
      refine wS_pure 2 [(11, .bool (decide (p1 > 200))), (10, .int .i64 (p1))] (by kernel_rfl) ?_
      refine wS_end (by rfl) ?_
      refine eX_then ?_
      refine cW_cond (t := decide (p1 > 200)) (by kernel_rfl) (fun hb24 => ?_) (fun hb24 => ?_)
      · have hm := condT hb24 hm
        refine cW_region ?_
        refine wS_pure 3 [(14, .pointer (some ⟨b0, 0, none⟩)), (13, .int .i64 (wr (y4.1 * 256))), (12, .int .i64 (y4.1))] (by kernel_rfl) ?_
        obtain ⟨y25, hy26, hm⟩ := bindE hm
        refine wS_calls (d := 15) (f := 128) (vs := [.pointer (some ⟨b0, 0, none⟩)]) (by kernel_rfl) ent128 (c_spec_l00Src_next_bspecl00Src hy26 F0_0 F8 J0__0_0) ?_
        rintro _ w27 ⟨rfl, F29, hc28⟩
        replace F0_0 := F0_0.chg hc28 (Dj.app (J0__0_0).symm Dj.nil)
        replace hB := hB.inS hc28 (inApp (inMem (fun x hx => (List.mem_append_left _ hx))) inNil)
        replace hZ := Nat.le_trans hZ hc28.size
        clear F8
        refine ⟨.int .i64 (y25.1), rfl, ?_⟩
        refine wS_pure 2 [(5, .int .i64 (wr ((wr (y4.1 * 256)) + y25.1))), (16, .int .i64 (wr ((wr (y4.1 * 256)) + y25.1)))] (by kernel_rfl) ?_
        refine wS_end (by rfl) ?_
        have hq : (some ((wr ((wr (y4.1 * 256)) + y25.1), y25.2.1, y25.2.2)) : Option (Int × Int × Int)) = some _ := hm
        replace hq := someE hq
        subst hq
        exact eX_J (fun hst => ⟨wr ((wr (y4.1 * 256)) + y25.1), y25.2.1, y25.2.2, rfl, Fr.of hst (by kernel_rfl), F0_0, F29, hB, hZ⟩)
      · have hm := condF hb24 hm
        refine cW_skip ?_
        have hq : (some ((y4.1, y4.2.1, y4.2.2)) : Option (Int × Int × Int)) = some _ := hm
        replace hq := someE hq
        subst hq
        exact eX_J (fun hst => ⟨y4.1, y4.2.1, y4.2.2, rfl, Fr.of hst (by kernel_rfl), F0_0, F8, hB, hZ⟩)
    · rintro a' w15 ⟨x16, x17, x18, hJ, hF19, F20, F21, hB, hZ⟩
      subst hJ
      refine Fr.goX hF19 (by kernel_rfl) ?_
      refine eX_then ?_
      refine cW_seq ?_
      refine cW_region ?_
      refine wS_pure 2 [(18, .int .i64 (p1)), (17, .int .i64 (x16))] (by kernel_rfl) ?_
      obtain ⟨u30, hu31, hm⟩ := bindE hm
      refine wS_rem (d := 19) (x := x16) (y := p1) (by kernel_rfl) (nzE hu31) ?_
      refine wS_pure 1 [(4, .int .i64 (Int.tmod x16 p1))] (by kernel_rfl) ?_
      refine wS_end (by rfl) ?_
      refine eX_then ?_
      refine cW_ret ?_
      have hq : (some ((Int.tmod x16 p1, x17, x18)) : Option ((Int) × (Int) × (Int))) = some _ := hm
      replace hq := someE hq
      subst hq
      refine eX_ret (vs := [.int .i64 (Int.tmod x16 p1)]) [.tmp 4] (by rfl) ⟨by (show lkE _ _ _ = _); kernel_rfl, trivial⟩ ?_
      exact ⟨rfl, F21, hB⟩

set_option maxRecDepth 100000 in
/-- spec.l00Src).one -/
theorem c_spec_l00Src_one_bspecl00Src {w0 : World} {l0_0 : List (Int)} {A0_0 : Option Addr} {cap0_0 : Nat} {fp0_0 : List Nat} {q0_1 : Int} {q0_2 : Int} {b0 : Nat} {p1 : Int} {r : (Bool) × (Int) × (Int)} (hm : m_spec_l00Src_one_bspecl00Src l0_0 q0_1 q0_2 p1 = some r) (F0_0 : Sl 1 encU w0 fp0_0 A0_0 l0_0) (F0 : Cl w0 b0 98 [.slice A0_0 (l0_0).length cap0_0, .int .i64 (q0_1), .int .u64 (q0_2)]) (J0__0_0 : Dj [b0] fp0_0) :
    Calls Try.prog 94 #[.pointer (some ⟨b0, 0, none⟩), .int .i64 (p1)] w0 fun e w' => e = .returned (.bool (r.1)) ∧ Cl w' b0 98 [.slice A0_0 (l0_0).length cap0_0, .int .i64 (r.2.1), .int .u64 (r.2.2)] ∧ Chg ([b0] ++ []) w0 w' := by
  have L0_0 := F0_0.low
  have L0 := lt1 F0.lt
  have hB : Chg ([b0] ++ []) w0 w0 := Chg.refl _ _
  have hZ := Nat.le_refl w0.heap.size
  unfold m_spec_l00Src_one_bspecl00Src at hm
  refine enterE (N := 9) Try.func94 (by rfl) Try.ntmps94 (by simp) [(0, .pointer (some ⟨b0, 0, none⟩)), (1, .int .i64 (p1))] (by rfl) (by kernel_rfl) (fun a => ?_)
  refine cW_seq ?_
  refine cW_region ?_
  refine wS_pure 1 [(4, .bool (false))] (by kernel_rfl) ?_
  refine wS_end (by rfl) ?_
  refine eX_then ?_
  refine cW_seq ?_
  refine cW_region ?_
  refine wS_pure 2 [(6, .int .i64 (p1)), (5, .pointer (some ⟨b0, 0, none⟩))] (by kernel_rfl) ?_
  obtain ⟨y3, hy4, hm⟩ := bindE hm
  refine wS_calls (d := 7) (f := 93) (vs := [.pointer (some ⟨b0, 0, none⟩), .int .i64 (p1)]) (by kernel_rfl) ent93 (c_spec_l00Src_pick_bspecl00Src hy4 F0_0 F0 J0__0_0) ?_
  rintro _ w5 ⟨rfl, F7, hc6⟩
  replace F0_0 := F0_0.chg hc6 (Dj.app (J0__0_0).symm Dj.nil)
  replace hB := hB.inS hc6 (inApp (inMem (fun x hx => (List.mem_append_left _ hx))) inNil)
  replace hZ := Nat.le_trans hZ hc6.size
  clear F0
  refine ⟨.int .i64 (y3.1), rfl, ?_⟩
  refine wS_pure 2 [(4, .bool (y3.1 == 0)), (8, .bool (y3.1 == 0))] (by kernel_rfl) ?_
  refine wS_end (by rfl) ?_
  refine eX_then ?_
  refine cW_ret ?_
  have hq : (some ((y3.1 == 0, y3.2.1, y3.2.2)) : Option ((Bool) × (Int) × (Int))) = some _ := hm
  replace hq := someE hq
  subst hq
  refine eX_ret (vs := [.bool (y3.1 == 0)]) [.tmp 4] (by rfl) ⟨by (show lkE _ _ _ = _); kernel_rfl, trivial⟩ ?_
  exact ⟨rfl, F7, hB⟩

end Go.Proofs.Ytdkpfkmmblmlhaa
