/- Printed walks: impl.in, cmp.isNaN[int64], cmp.Compare[int64], slices.Compare[[]int64,int64], impl.ValidWiring$1, impl.ValidWiring$2, (*impl.Wiring).pairsOk, slices.IndexFunc[[][]int64,[]int64], slices.ContainsFunc[[][]int64,[]int64], slices.IndexFunc[[]int64,int64], slices.ContainsFunc[[]int64,int64], impl.ValidWiring, (*impl.Wiring).crossed, (impl.graph).twice, slices.Index[[]int,int], slices.Contains[[]int,int], math/bits.Mul64, math/bits.Mul, slices.Repeat[[]int,int], (impl.graph).back. -/
import Derived.Test.YtngnljnfbfgfeaaProg
import Derived.Test.YtngnljnfbfgfeaaMod
import Derived.Test.YtngnljnfbfgfeaaEqs
import Derived.Test.YtngnljnfbfgfeaaSrtC
set_option linter.unusedSimpArgs false
set_option linter.unusedVariables false
namespace Go.Proofs.Ytngnljnfbfgfeaa
open Go.RowKit
attribute [local irreducible] wS cW eX wH

theorem ent57 : Ent Try.prog 57 := fun _ => by kernel_rfl
theorem ent58 : Ent Try.prog 58 := fun _ => by kernel_rfl
theorem ent59 : Ent Try.prog 59 := fun _ => by kernel_rfl
theorem ent60 : Ent Try.prog 60 := fun _ => by kernel_rfl
theorem ent61 : Ent Try.prog 61 := fun _ => by kernel_rfl
theorem ent62 : Ent Try.prog 62 := fun _ => by kernel_rfl
theorem ent95 : Ent Try.prog 95 := fun _ => by kernel_rfl
theorem ent99 : Ent Try.prog 99 := fun _ => by kernel_rfl
theorem ent100 : Ent Try.prog 100 := fun _ => by kernel_rfl
theorem ent101 : Ent Try.prog 101 := fun _ => by kernel_rfl
theorem ent102 : Ent Try.prog 102 := fun _ => by kernel_rfl
theorem ent125 : Ent Try.prog 125 := fun _ => by kernel_rfl
theorem ent126 : Ent Try.prog 126 := fun _ => by kernel_rfl
theorem ent127 : Ent Try.prog 127 := fun _ => by kernel_rfl
theorem ent146 : Ent Try.prog 146 := fun _ => by kernel_rfl
theorem ent147 : Ent Try.prog 147 := fun _ => by kernel_rfl
theorem ent158 : Ent Try.prog 158 := fun _ => by kernel_rfl
theorem vt2 : VarTy Try.prog 2 1 false := ⟨by kernel_rfl, by kernel_rfl⟩
theorem vt3 : VarTy Try.prog 3 1 false := ⟨by kernel_rfl, by kernel_rfl⟩
theorem vt24 : VarTy Try.prog 24 1 false := ⟨by kernel_rfl, by kernel_rfl⟩
theorem vt25 : VarTy Try.prog 25 1 false := ⟨by kernel_rfl, by kernel_rfl⟩
theorem vt75 : VarTy Try.prog 75 1 false := ⟨by kernel_rfl, by kernel_rfl⟩
theorem sl24 : SlTy Try.prog 24 25 1 := ⟨Try.underlying24, by kernel_rfl⟩
theorem sl25 : SlTy Try.prog 25 2 1 := ⟨Try.underlying25, by kernel_rfl⟩
theorem sl75 : SlTy Try.prog 75 3 1 := ⟨Try.underlying75, by kernel_rfl⟩
theorem sl77 : SlTy Try.prog 77 75 1 := ⟨Try.underlying77, by kernel_rfl⟩
theorem el75 : ElTy Try.prog 75 3 1 (.int .i64 (0)) := ElTy.mk' Try.underlying75 (by kernel_rfl) (by rfl)
theorem el77 : ElTy Try.prog 77 75 1 (.slice none 0 0) := ElTy.mk' Try.underlying77 (by kernel_rfl) (by rfl)
theorem sz3 : pureRun Try.prog (sizeOf 3) = some 1 := by kernel_rfl
theorem sz75 : pureRun Try.prog (sizeOf 75) = some 1 := by kernel_rfl

set_option maxRecDepth 100000 in
/-- impl.in -/
theorem c_impl_in {w0 : World} {p0 : Int} {p1 : Int} {p2 : Int} {r : (Bool)} (hm : m_impl_in p0 p1 p2 = some r)  :
    Calls Try.prog 57 #[.int .i64 (p0), .int .i64 (p1), .int .i64 (p2)] w0 fun e w' => e = .returned (.bool (r)) ∧ Chg [] w0 w' := by
  have hB : Chg [] w0 w0 := Chg.refl _ _
  have hZ := Nat.le_refl w0.heap.size
  unfold m_impl_in at hm
  refine enterE (N := 15) Try.func57 (by rfl) Try.ntmps57 (by simp) [(0, .int .i64 (p0)), (1, .int .i64 (p1)), (2, .int .i64 (p2))] (by rfl) (by kernel_rfl) (fun a => ?_)
  refine cW_seq ?_
  refine cW_region ?_
  refine wS_pure 1 [(6, .bool (false))] (by kernel_rfl) ?_
  refine wS_end (by rfl) ?_
  refine eX_then ?_
  refine cW_seq ?_
  refine cW_region ?_
  refine wS_pure 4 [(10, .bool (decide (p0 ≥ p1))), (9, .bool (decide (p0 ≥ p1))), (8, .int .i64 (p1)), (7, .int .i64 (p0))] (by kernel_rfl) ?_
  refine wS_bool (decide (p0 ≥ p1)) (fun hb1 => ?_) (fun hb1 => ?_)
  · have hm := condT hb1 hm
    rewrite [hb1]
    refine wS_pure 5 [(6, .bool (decide (p0 ≤ p2))), (14, .bool (decide (p0 ≤ p2))), (13, .bool (decide (p0 ≤ p2))), (12, .int .i64 (p2)), (11, .int .i64 (p0))] (by kernel_rfl) ?_
    refine wS_end (by rfl) ?_
    refine eX_then ?_
    refine cW_ret ?_
    have hq : (some (decide (p0 ≤ p2)) : Option ((Bool))) = some _ := hm
    replace hq := someE hq
    subst hq
    refine eX_ret (vs := [.bool (decide (p0 ≤ p2))]) [.tmp 6] (by rfl) ⟨by (show lkE _ _ _ = _); kernel_rfl, trivial⟩ ?_
    exact ⟨rfl, hB⟩
  · have hm := condF hb1 hm
    rewrite [hb1]
    refine wS_pure 5 [(6, .bool (false)), (14, .bool (false)), (13, undef), (12, undef), (11, undef)] (by kernel_rfl) ?_
    refine wS_end (by rfl) ?_
    refine eX_then ?_
    refine cW_ret ?_
    have hq : (some false : Option ((Bool))) = some _ := hm
    replace hq := someE hq
    subst hq
    refine eX_ret (vs := [.bool (false)]) [.tmp 6] (by rfl) ⟨by (show lkE _ _ _ = _); kernel_rfl, trivial⟩ ?_
    exact ⟨rfl, hB⟩

set_option maxRecDepth 100000 in
/-- cmp.isNaN[int64] -/
theorem c_cmp_isNaN_int64 {w0 : World} {p0 : Int} {r : (Bool)} (hm : m_cmp_isNaN_int64 p0 = some r)  :
    Calls Try.prog 147 #[.int .i64 (p0)] w0 fun e w' => e = .returned (.bool (r)) ∧ Chg [] w0 w' := by
  have hB : Chg [] w0 w0 := Chg.refl _ _
  have hZ := Nat.le_refl w0.heap.size
  unfold m_cmp_isNaN_int64 at hm
  refine enterE (N := 6) Try.func147 (by rfl) Try.ntmps147 (by simp) [(0, .int .i64 (p0))] (by rfl) (by kernel_rfl) (fun a => ?_)
  refine cW_seq ?_
  refine cW_region ?_
  refine wS_pure 1 [(2, .bool (false))] (by kernel_rfl) ?_
  refine wS_end (by rfl) ?_
  refine eX_then ?_
  refine cW_seq ?_
  refine cW_region ?_
  refine wS_pure 4 [(2, .bool (p0 != p0)), (5, .bool (p0 != p0)), (4, .int .i64 (p0)), (3, .int .i64 (p0))] (by kernel_rfl) ?_
  refine wS_end (by rfl) ?_
  refine eX_then ?_
  refine cW_ret ?_
  have hq : (some (p0 != p0) : Option ((Bool))) = some _ := hm
  replace hq := someE hq
  subst hq
  refine eX_ret (vs := [.bool (p0 != p0)]) [.tmp 2] (by rfl) ⟨by (show lkE _ _ _ = _); kernel_rfl, trivial⟩ ?_
  exact ⟨rfl, hB⟩

set_option maxRecDepth 100000 in
/-- cmp.Compare[int64] -/
theorem c_cmp_Compare_int64 {w0 : World} {p0 : Int} {p1 : Int} {r : (Int)} (hm : m_cmp_Compare_int64 p0 p1 = some r)  :
    Calls Try.prog 127 #[.int .i64 (p0), .int .i64 (p1)] w0 fun e w' => e = .returned (.int .i64 (r)) ∧ Chg [] w0 w' := by
  have hB : Chg [] w0 w0 := Chg.refl _ _
  have hZ := Nat.le_refl w0.heap.size
  unfold m_cmp_Compare_int64 at hm
  refine enterE (N := 20) Try.func127 (by rfl) Try.ntmps127 (by simp) [(0, .int .i64 (p0)), (1, .int .i64 (p1))] (by rfl) (by kernel_rfl) (fun a => ?_)
  refine cW_seq ?_
  refine cW_region ?_
  refine wS_pure 1 [(4, .int .i64 (0))] (by kernel_rfl) ?_
  refine wS_end (by rfl) ?_
  refine eX_then ?_
  refine cW_seq ?_
  refine cW_region ?_
  refine wS_pure 1 [(7, .int .i64 (p0))] (by kernel_rfl) ?_
  obtain ⟨y1, hy2, hm⟩ := bindE hm
  refine wS_calls (d := 8) (f := 147) (vs := [.int .i64 (p0)]) (by kernel_rfl) ent147 (c_cmp_isNaN_int64 hy2) ?_
  rintro _ w3 ⟨rfl, hc4⟩
  replace hB := hB.inS hc4 inNil
  replace hZ := Nat.le_trans hZ hc4.size
  refine ⟨.bool (y1), rfl, ?_⟩
  refine wS_pure 1 [(5, .bool (y1))] (by kernel_rfl) ?_
  refine wS_end (by rfl) ?_
  refine eX_then ?_
  refine cW_seq ?_
  refine cW_region ?_
  refine wS_pure 1 [(9, .int .i64 (p1))] (by kernel_rfl) ?_
  obtain ⟨y5, hy6, hm⟩ := bindE hm
  refine wS_calls (d := 10) (f := 147) (vs := [.int .i64 (p1)]) (by kernel_rfl) ent147 (c_cmp_isNaN_int64 hy6) ?_
  rintro _ w7 ⟨rfl, hc8⟩
  replace hB := hB.inS hc8 inNil
  replace hZ := Nat.le_trans hZ hc8.size
  refine ⟨.bool (y5), rfl, ?_⟩
  refine wS_pure 1 [(6, .bool (y5))] (by kernel_rfl) ?_
  refine wS_end (by rfl) ?_
  refine eX_then ?_
  refine cW_seq ?_
  refine cW_seq ?_
  refine cW_region ?_
  refine wS_pure 1 [(11, .bool (y1))] (by kernel_rfl) ?_
  refine wS_end (by rfl) ?_
  refine eX_then ?_
  refine cW_cond (t := y1) (by kernel_rfl) (fun hb9 => ?_) (fun hb9 => ?_)
  · have hm := condT hb9 hm
    refine cW_seq ?_
    refine cW_seq ?_
    refine cW_region ?_
    refine wS_pure 1 [(12, .bool (y5))] (by kernel_rfl) ?_
    refine wS_end (by rfl) ?_
    refine eX_then ?_
    refine cW_cond (t := y5) (by kernel_rfl) (fun hb10 => ?_) (fun hb10 => ?_)
    · have hm := condT hb10 hm
      refine cW_seq ?_
      refine cW_region ?_
      refine wS_pure 1 [(4, .int .i64 (0))] (by kernel_rfl) ?_
      refine wS_end (by rfl) ?_
      refine eX_then ?_
      refine cW_ret ?_
      refine eX_then_ret ?_
      refine eX_then_ret ?_
      have hq : (some 0 : Option ((Int))) = some _ := hm
      replace hq := someE hq
      subst hq
      refine eX_ret (vs := [.int .i64 (0)]) [.tmp 4] (by rfl) ⟨by (show lkE _ _ _ = _); kernel_rfl, trivial⟩ ?_
      exact ⟨rfl, hB⟩
    · have hm := condF hb10 hm
      refine cW_skip ?_
      refine eX_then ?_
      refine cW_seq ?_
      refine cW_region ?_
      refine wS_pure 1 [(4, .int .i64 ((-1)))] (by kernel_rfl) ?_
      refine wS_end (by rfl) ?_
      refine eX_then ?_
      refine cW_ret ?_
      refine eX_then_ret ?_
      have hq : (some ((-1)) : Option ((Int))) = some _ := hm
      replace hq := someE hq
      subst hq
      refine eX_ret (vs := [.int .i64 ((-1))]) [.tmp 4] (by rfl) ⟨by (show lkE _ _ _ = _); kernel_rfl, trivial⟩ ?_
      exact ⟨rfl, hB⟩
  · have hm := condF hb9 hm
    refine cW_skip ?_
    refine eX_then ?_
    refine cW_seq ?_
    refine cW_seq ?_
    refine cW_region ?_
    refine wS_pure 1 [(13, .bool (y5))] (by kernel_rfl) ?_
    refine wS_end (by rfl) ?_
    refine eX_then ?_
    refine cW_cond (t := y5) (by kernel_rfl) (fun hb11 => ?_) (fun hb11 => ?_)
    · have hm := condT hb11 hm
      refine cW_seq ?_
      refine cW_region ?_
      refine wS_pure 1 [(4, .int .i64 (1))] (by kernel_rfl) ?_
      refine wS_end (by rfl) ?_
      refine eX_then ?_
      refine cW_ret ?_
      refine eX_then_ret ?_
      have hq : (some 1 : Option ((Int))) = some _ := hm
      replace hq := someE hq
      subst hq
      refine eX_ret (vs := [.int .i64 (1)]) [.tmp 4] (by rfl) ⟨by (show lkE _ _ _ = _); kernel_rfl, trivial⟩ ?_
      exact ⟨rfl, hB⟩
    · have hm := condF hb11 hm
      refine cW_skip ?_
      refine eX_then ?_
      refine cW_seq ?_
      refine cW_seq ?_
      refine cW_region ?_
      refine wS_pure 3 [(16, .bool (decide (p0 < p1))), (15, .int .i64 (p1)), (14, .int .i64 (p0))] (by kernel_rfl) ?_
      refine wS_end (by rfl) ?_
      refine eX_then ?_
      refine cW_cond (t := decide (p0 < p1)) (by kernel_rfl) (fun hb12 => ?_) (fun hb12 => ?_)
      · have hm := condT hb12 hm
        refine cW_seq ?_
        refine cW_region ?_
        refine wS_pure 1 [(4, .int .i64 ((-1)))] (by kernel_rfl) ?_
        refine wS_end (by rfl) ?_
        refine eX_then ?_
        refine cW_ret ?_
        refine eX_then_ret ?_
        have hq : (some ((-1)) : Option ((Int))) = some _ := hm
        replace hq := someE hq
        subst hq
        refine eX_ret (vs := [.int .i64 ((-1))]) [.tmp 4] (by rfl) ⟨by (show lkE _ _ _ = _); kernel_rfl, trivial⟩ ?_
        exact ⟨rfl, hB⟩
      · have hm := condF hb12 hm
        refine cW_skip ?_
        refine eX_then ?_
        refine cW_seq ?_
        refine cW_seq ?_
        refine cW_region ?_
        refine wS_pure 3 [(19, .bool (decide (p0 > p1))), (18, .int .i64 (p1)), (17, .int .i64 (p0))] (by kernel_rfl) ?_
        refine wS_end (by rfl) ?_
        refine eX_then ?_
        refine cW_cond (t := decide (p0 > p1)) (by kernel_rfl) (fun hb13 => ?_) (fun hb13 => ?_)
        · have hm := condT hb13 hm
          refine cW_seq ?_
          refine cW_region ?_
          refine wS_pure 1 [(4, .int .i64 (1))] (by kernel_rfl) ?_
          refine wS_end (by rfl) ?_
          refine eX_then ?_
          refine cW_ret ?_
          refine eX_then_ret ?_
          have hq : (some 1 : Option ((Int))) = some _ := hm
          replace hq := someE hq
          subst hq
          refine eX_ret (vs := [.int .i64 (1)]) [.tmp 4] (by rfl) ⟨by (show lkE _ _ _ = _); kernel_rfl, trivial⟩ ?_
          exact ⟨rfl, hB⟩
        · have hm := condF hb13 hm
          refine cW_skip ?_
          refine eX_then ?_
          refine cW_seq ?_
          refine cW_region ?_
          refine wS_pure 1 [(4, .int .i64 (0))] (by kernel_rfl) ?_
          refine wS_end (by rfl) ?_
          refine eX_then ?_
          refine cW_ret ?_
          have hq : (some 0 : Option ((Int))) = some _ := hm
          replace hq := someE hq
          subst hq
          refine eX_ret (vs := [.int .i64 (0)]) [.tmp 4] (by rfl) ⟨by (show lkE _ _ _ = _); kernel_rfl, trivial⟩ ?_
          exact ⟨rfl, hB⟩

set_option maxRecDepth 100000 in
/-- slices.Compare[[]int64,int64] -/
theorem c_slices_Compare_int64_int64 {w0 : World} {l0 : List (Int)} {A0 : Option Addr} {cap0 : Nat} {fp0 : List Nat} {l1 : List (Int)} {A1 : Option Addr} {cap1 : Nat} {fp1 : List Nat} {r : (Int)} (hm : m_slices_Compare_int64_int64 l0 l1 = some r) (F0 : Sl 1 encI w0 fp0 A0 l0) (F1 : Sl 1 encI w0 fp1 A1 l1) :
    Calls Try.prog 100 #[.slice A0 (l0).length cap0, .slice A1 (l1).length cap1] w0 fun e w' => e = .returned (.int .i64 (r)) ∧ Chg [] w0 w' := by
  have L0 := F0.low
  have L1 := F1.low
  have hB : Chg [] w0 w0 := Chg.refl _ _
  have hZ := Nat.le_refl w0.heap.size
  unfold m_slices_Compare_int64_int64 at hm
  refine enterE (N := 36) Try.func100 (by rfl) Try.ntmps100 (by simp) [(0, .slice A0 (l0).length cap0), (1, .slice A1 (l1).length cap1)] (by rfl) (by kernel_rfl) (fun a => ?_)
  refine cW_seq ?_
  refine cW_region ?_
  refine wS_pure 1 [(4, .int .i64 (0))] (by kernel_rfl) ?_
  refine wS_end (by rfl) ?_
  refine eX_then ?_
  refine cW_seq ?_
  refine cW_seq ?_
  refine cW_region ?_
  refine wS_pure 3 [(11, .int .i64 (0)), (10, .int .i64 (((l0).length : Int))), (9, .slice A0 (l0).length cap0)] (by kernel_rfl) ?_
  refine wS_end (by rfl) ?_
  refine eX_then ?_
  obtain ⟨r43, hr44, hm⟩ := bindE hm
  have hm45 := hm
  refine cW_cut (fun a' w' => Sum.inl (()) = r43 ∧ Fr 36 [(0, .slice A0 (l0).length cap0), (1, .slice A1 (l1).length cap1)] a' ∧ Sl 1 encI w' fp0 A0 l0 ∧ Sl 1 encI w' fp1 A1 l1 ∧ Chg [] w0 w' ∧ w0.heap.size ≤ w'.heap.size) ?_ ?_
  · refine cW_block ?_
    refine cW_loop _ (fun (s46 : Int) a' w' => ∃ x39 : Int, x39 = s46 ∧ Fr 36 [(0, .slice A0 (l0).length cap0), (1, .slice A1 (l1).length cap1), (9, .slice A0 (l0).length cap0), (10, .int .i64 (((l0).length : Int))), (11, .int .i64 (x39))] a' ∧ Sl 1 encI w' fp0 A0 l0 ∧ Sl 1 encI w' fp1 A1 l1 ∧ Chg [] w0 w' ∧ w0.heap.size ≤ w'.heap.size) hr44 (fun hst => ⟨0, rfl, Fr.of hst (by kernel_rfl), F0, F1, hB, hZ⟩) ?_
    rintro _ c47 a' w38 ⟨x39, rfl, hF40, F41, F42, hB, hZ⟩ hx48
    refine Fr.goOn hF40 (by kernel_rfl) ?_
    have hm := hx48
    unfold m_slices_Compare_int64_int64_s1 at hm
    refine cW_seq ?_
    refine cW_region ?_
    refine wS_pure 1 [(12, .bool (decide (x39 < (((l0).length : Int)))))] (by kernel_rfl) ?_
    refine wS_end (by rfl) ?_
    refine eX_then ?_
    refine cW_seq ?_
    refine cW_cond (t := decide (x39 < (((l0).length : Int)))) (by kernel_rfl) (fun hb49 => ?_) (fun hb49 => ?_)
    · have hm := condT hb49 hm
      refine cW_skip ?_
      refine eX_then ?_
      refine cW_seq ?_
      refine cW_block ?_
      refine cW_seq ?_
      refine cW_region ?_
      refine wS_pure 1 [(13, .int .i64 (x39))] (by kernel_rfl) ?_
      obtain ⟨x50, hx51, hm⟩ := bindE hm
      refine wS_idx (d := 14) (T := 25) (A := A0) (n := (l0).length) (cap := cap0) (kd := .i64) (m := x39) (by kernel_rfl) sl25 (F41.is hx51) ?_
      refine wS_load1 (d := 15) (T := 2) (ad := (elA A0 1 (x39) 0)) (v := .int .i64 (x50)) (by kernel_rfl) vt2 (Sl.cell F41 hx51 0 (by rfl)) ?_
      refine wS_pure 2 [(6, .int .i64 (x50)), (5, .int .i64 (x39))] (by kernel_rfl) ?_
      refine wS_end (by rfl) ?_
      refine eX_then ?_
      refine cW_seq ?_
      refine cW_seq ?_
      refine cW_region ?_
      refine wS_pure 4 [(19, .bool (decide (x39 ≥ (((l1).length : Int))))), (18, .int .i64 (((l1).length : Int))), (17, .slice A1 (l1).length cap1), (16, .int .i64 (x39))] (by kernel_rfl) ?_
      refine wS_end (by rfl) ?_
      refine eX_then ?_
      refine cW_cond (t := decide (x39 ≥ (((l1).length : Int)))) (by kernel_rfl) (fun hb52 => ?_) (fun hb52 => ?_)
      · have hm := condT hb52 hm
        refine cW_seq ?_
        refine cW_region ?_
        refine wS_pure 1 [(4, .int .i64 (1))] (by kernel_rfl) ?_
        refine wS_end (by rfl) ?_
        refine eX_then ?_
        refine cW_ret ?_
        refine eX_then_ret ?_
        refine eX_block_ret ?_
        refine eX_then_ret ?_
        have hq : (some (Ctl.out (Sum.inr 1)) : Option (Ctl (Int) (Sum (Unit) ((Int))))) = some _ := hm
        replace hq := someE hq
        subst hq
        refine eX_outR hx48 (fun hr => ?_)
        subst hr
        refine eX_block_ret ?_
        refine eX_then_ret ?_
        refine eX_then_ret ?_
        have hq : (some 1 : Option ((Int))) = some _ := hm45
        replace hq := someE hq
        subst hq
        refine eX_ret (vs := [.int .i64 (1)]) [.tmp 4] (by rfl) ⟨by (show lkE _ _ _ = _); kernel_rfl, trivial⟩ ?_
        exact ⟨rfl, hB⟩
      · have hm := condF hb52 hm
        refine cW_skip ?_
        refine eX_then ?_
        refine cW_seq ?_
        refine cW_region ?_
        refine wS_pure 2 [(21, .int .i64 (x39)), (20, .slice A1 (l1).length cap1)] (by kernel_rfl) ?_
        obtain ⟨x53, hx54, hm⟩ := bindE hm
        refine wS_idx (d := 22) (T := 25) (A := A1) (n := (l1).length) (cap := cap1) (kd := .i64) (m := x39) (by kernel_rfl) sl25 (F42.is hx54) ?_
        refine wS_load1 (d := 23) (T := 2) (ad := (elA A1 1 (x39) 0)) (v := .int .i64 (x53)) (by kernel_rfl) vt2 (Sl.cell F42 hx54 0 (by rfl)) ?_
        refine wS_pure 1 [(7, .int .i64 (x53))] (by kernel_rfl) ?_
        refine wS_end (by rfl) ?_
        refine eX_then ?_
        refine cW_seq ?_
        refine cW_region ?_
        refine wS_pure 2 [(25, .int .i64 (x53)), (24, .int .i64 (x50))] (by kernel_rfl) ?_
        obtain ⟨y55, hy56, hm⟩ := bindE hm
        refine wS_calls (d := 26) (f := 127) (vs := [.int .i64 (x50), .int .i64 (x53)]) (by kernel_rfl) ent127 (c_cmp_Compare_int64 hy56) ?_
        rintro _ w57 ⟨rfl, hc58⟩
        replace F41 := F41.chg hc58 Dj.nil
        replace F42 := F42.chg hc58 Dj.nil
        replace hB := hB.inS hc58 inNil
        replace hZ := Nat.le_trans hZ hc58.size
        refine ⟨.int .i64 (y55), rfl, ?_⟩
        refine wS_pure 1 [(8, .int .i64 (y55))] (by kernel_rfl) ?_
        refine wS_end (by rfl) ?_
        refine eX_then ?_
        refine cW_prune [(0, .slice A0 (l0).length cap0), (1, .slice A1 (l1).length cap1), (8, .int .i64 (y55)), (9, .slice A0 (l0).length cap0), (10, .int .i64 (((l0).length : Int))), (11, .int .i64 (x39))] (by kernel_rfl) (by kernel_rfl) (fun a59 => ?_)
        refine cW_seq ?_
        refine cW_region ?_
        refine wS_pure 2 [(28, .bool (y55 != 0)), (27, .int .i64 (y55))] (by kernel_rfl) ?_
        refine wS_end (by rfl) ?_
        refine eX_then ?_
        refine cW_cond (t := y55 != 0) (by kernel_rfl) (fun hb60 => ?_) (fun hb60 => ?_)
        · have hm := condT hb60 hm
          refine cW_seq ?_
          refine cW_region ?_
          refine wS_pure 2 [(4, .int .i64 (y55)), (29, .int .i64 (y55))] (by kernel_rfl) ?_
          refine wS_end (by rfl) ?_
          refine eX_then ?_
          refine cW_ret ?_
          refine eX_block_ret ?_
          refine eX_then_ret ?_
          have hq : (some (Ctl.out (Sum.inr y55)) : Option (Ctl (Int) (Sum (Unit) ((Int))))) = some _ := hm
          replace hq := someE hq
          subst hq
          refine eX_outR hx48 (fun hr => ?_)
          subst hr
          refine eX_block_ret ?_
          refine eX_then_ret ?_
          refine eX_then_ret ?_
          have hq : (some y55 : Option ((Int))) = some _ := hm45
          replace hq := someE hq
          subst hq
          refine eX_ret (vs := [.int .i64 (y55)]) [.tmp 4] (by rfl) ⟨by (show lkE _ _ _ = _); kernel_rfl, trivial⟩ ?_
          exact ⟨rfl, hB⟩
        · have hm := condF hb60 hm
          refine cW_skip ?_
          refine eX_block ?_
          refine eX_then ?_
          refine cW_region ?_
          refine wS_pure 2 [(11, .int .i64 (wr (x39 + 1))), (30, .int .i64 (wr (x39 + 1)))] (by kernel_rfl) ?_
          refine wS_end (by rfl) ?_
          have hq : (some (Ctl.next (wr (x39 + 1))) : Option (Ctl (Int) (Sum (Unit) ((Int))))) = some _ := hm
          replace hq := someE hq
          subst hq
          exact eX_next hx48 (fun hst => ⟨wr (x39 + 1), rfl, Fr.of hst (by kernel_rfl), F41, F42, hB, hZ⟩)
    · have hm := condF hb49 hm
      refine cW_exit ?_
      refine eX_then_exit ?_
      have hq : (some (Ctl.out (Sum.inl (()))) : Option (Ctl (Int) (Sum (Unit) ((Int))))) = some _ := hm
      replace hq := someE hq
      subst hq
      refine eX_outX hx48 (fun hr61 => ?_)
      replace hr61 := hr61.symm
      subst hr61
      refine eX_block_hit ?_
      exact eX_J (fun hst => ⟨rfl, Fr.of hst (by kernel_rfl), F41, F42, hB, hZ⟩)
  · rintro a' w34 ⟨hJ, hF35, F36, F37, hB, hZ⟩
    subst hJ
    refine Fr.goX hF35 (by kernel_rfl) ?_
    refine eX_then ?_
    refine cW_seq ?_
    refine cW_seq ?_
    refine cW_region ?_
    refine wS_pure 5 [(35, .bool (decide ((((l0).length : Int)) < (((l1).length : Int))))), (34, .int .i64 (((l1).length : Int))), (33, .slice A1 (l1).length cap1), (32, .int .i64 (((l0).length : Int))), (31, .slice A0 (l0).length cap0)] (by kernel_rfl) ?_
    refine wS_end (by rfl) ?_
    refine eX_then ?_
    refine cW_cond (t := decide ((((l0).length : Int)) < (((l1).length : Int)))) (by kernel_rfl) (fun hb62 => ?_) (fun hb62 => ?_)
    · have hm := condT hb62 hm
      refine cW_seq ?_
      refine cW_region ?_
      refine wS_pure 1 [(4, .int .i64 ((-1)))] (by kernel_rfl) ?_
      refine wS_end (by rfl) ?_
      refine eX_then ?_
      refine cW_ret ?_
      refine eX_then_ret ?_
      have hq : (some ((-1)) : Option ((Int))) = some _ := hm
      replace hq := someE hq
      subst hq
      refine eX_ret (vs := [.int .i64 ((-1))]) [.tmp 4] (by rfl) ⟨by (show lkE _ _ _ = _); kernel_rfl, trivial⟩ ?_
      exact ⟨rfl, hB⟩
    · have hm := condF hb62 hm
      refine cW_skip ?_
      refine eX_then ?_
      refine cW_seq ?_
      refine cW_region ?_
      refine wS_pure 1 [(4, .int .i64 (0))] (by kernel_rfl) ?_
      refine wS_end (by rfl) ?_
      refine eX_then ?_
      refine cW_ret ?_
      have hq : (some 0 : Option ((Int))) = some _ := hm
      replace hq := someE hq
      subst hq
      refine eX_ret (vs := [.int .i64 (0)]) [.tmp 4] (by rfl) ⟨by (show lkE _ _ _ = _); kernel_rfl, trivial⟩ ?_
      exact ⟨rfl, hB⟩

set_option maxRecDepth 100000 in
/-- impl.ValidWiring$1 -/
theorem c_impl_ValidWiring_1 {w0 : World} {l0 : List (Int)} {A0 : Option Addr} {cap0 : Nat} {fp0 : List Nat} {r : (Bool)} (hm : m_impl_ValidWiring_1 l0 = some r) (F0 : Sl 1 encI w0 fp0 A0 l0) :
    Calls Try.prog 60 #[.slice A0 (l0).length cap0] w0 fun e w' => e = .returned (.bool (r)) ∧ Chg [] w0 w' := by
  have L0 := F0.low
  have hB : Chg [] w0 w0 := Chg.refl _ _
  have hZ := Nat.le_refl w0.heap.size
  unfold m_impl_ValidWiring_1 at hm
  refine enterE (N := 8) Try.func60 (by rfl) Try.ntmps60 (by simp) [(0, .slice A0 (l0).length cap0)] (by rfl) (by kernel_rfl) (fun a => ?_)
  refine cW_seq ?_
  refine cW_region ?_
  refine wS_pure 1 [(2, .bool (false))] (by kernel_rfl) ?_
  refine wS_end (by rfl) ?_
  refine eX_then ?_
  refine cW_seq ?_
  refine cW_region ?_
  refine wS_pure 1 [(3, .slice A0 (l0).length cap0)] (by kernel_rfl) ?_
  obtain ⟨x2, hx3, hm⟩ := bindE hm
  refine wS_idx (d := 4) (T := 25) (A := A0) (n := (l0).length) (cap := cap0) (kd := .i64) (m := 2) (by kernel_rfl) sl25 (F0.is hx3) ?_
  refine wS_load1 (d := 5) (T := 2) (ad := (elA A0 1 (2) 0)) (v := .int .i64 (x2)) (by kernel_rfl) vt2 (Sl.cell F0 hx3 0 (by rfl)) ?_
  obtain ⟨y4, hy5, hm⟩ := bindE hm
  refine wS_calls (d := 6) (f := 57) (vs := [.int .i64 (x2), .int .i64 (0), .int .i64 (1000)]) (by kernel_rfl) ent57 (c_impl_in hy5) ?_
  rintro _ w6 ⟨rfl, hc7⟩
  replace F0 := F0.chg hc7 Dj.nil
  replace hB := hB.inS hc7 inNil
  replace hZ := Nat.le_trans hZ hc7.size
  refine ⟨.bool (y4), rfl, ?_⟩
  refine wS_pure 2 [(2, .bool (!y4)), (7, .bool (!y4))] (by kernel_rfl) ?_
  refine wS_end (by rfl) ?_
  refine eX_then ?_
  refine cW_ret ?_
  have hq : (some (!y4) : Option ((Bool))) = some _ := hm
  replace hq := someE hq
  subst hq
  refine eX_ret (vs := [.bool (!y4)]) [.tmp 2] (by rfl) ⟨by (show lkE _ _ _ = _); kernel_rfl, trivial⟩ ?_
  exact ⟨rfl, hB⟩

set_option maxRecDepth 100000 in
/-- impl.ValidWiring$2 -/
theorem c_impl_ValidWiring_2 {w0 : World} {p0 : Int} {r : (Bool)} (hm : m_impl_ValidWiring_2 p0 = some r)  :
    Calls Try.prog 62 #[.int .i64 (p0)] w0 fun e w' => e = .returned (.bool (r)) ∧ Chg [] w0 w' := by
  have hB : Chg [] w0 w0 := Chg.refl _ _
  have hZ := Nat.le_refl w0.heap.size
  unfold m_impl_ValidWiring_2 at hm
  refine enterE (N := 6) Try.func62 (by rfl) Try.ntmps62 (by simp) [(0, .int .i64 (p0))] (by rfl) (by kernel_rfl) (fun a => ?_)
  refine cW_seq ?_
  refine cW_region ?_
  refine wS_pure 1 [(2, .bool (false))] (by kernel_rfl) ?_
  refine wS_end (by rfl) ?_
  refine eX_then ?_
  refine cW_seq ?_
  refine cW_region ?_
  refine wS_pure 1 [(3, .int .i64 (p0))] (by kernel_rfl) ?_
  obtain ⟨y1, hy2, hm⟩ := bindE hm
  refine wS_calls (d := 4) (f := 57) (vs := [.int .i64 (p0), .int .i64 ((-1)), .int .i64 (1)]) (by kernel_rfl) ent57 (c_impl_in hy2) ?_
  rintro _ w3 ⟨rfl, hc4⟩
  replace hB := hB.inS hc4 inNil
  replace hZ := Nat.le_trans hZ hc4.size
  refine ⟨.bool (y1), rfl, ?_⟩
  refine wS_pure 2 [(2, .bool (!y1)), (5, .bool (!y1))] (by kernel_rfl) ?_
  refine wS_end (by rfl) ?_
  refine eX_then ?_
  refine cW_ret ?_
  have hq : (some (!y1) : Option ((Bool))) = some _ := hm
  replace hq := someE hq
  subst hq
  refine eX_ret (vs := [.bool (!y1)]) [.tmp 2] (by rfl) ⟨by (show lkE _ _ _ = _); kernel_rfl, trivial⟩ ?_
  exact ⟨rfl, hB⟩

set_option maxRecDepth 100000 in
/-- impl.Wiring).pairsOk -/
theorem c_impl_Wiring_pairsOk_bimplWiring {w0 : World} {q0_0 : Int} {l0_1 : List (List (Int))} {A0_1 : Option Addr} {cap0_1 : Nat} {fp0_1 : List Nat} {l0_2 : List (List (Int))} {A0_2 : Option Addr} {cap0_2 : Nat} {fp0_2 : List Nat} {l0_3 : List (Int)} {A0_3 : Option Addr} {cap0_3 : Nat} {fp0_3 : List Nat} {b0 : Nat} {l1 : List (List (Int))} {A1 : Option Addr} {cap1 : Nat} {fp1 : List Nat} {p2 : Int} {r : (Bool)} (hm : m_impl_Wiring_pairsOk_bimplWiring q0_0 l0_1 l0_2 l0_3 l1 p2 = some r) (F0_1 : SlR 1 encI w0 fp0_1 A0_1 l0_1) (F0_2 : SlR 1 encI w0 fp0_2 A0_2 l0_2) (F0_3 : Sl 1 encI w0 fp0_3 A0_3 l0_3) (F0 : Cl w0 b0 27 [.int .i64 (q0_0), .slice A0_1 (l0_1).length cap0_1, .slice A0_2 (l0_2).length cap0_2, .slice A0_3 (l0_3).length cap0_3]) (F1 : SlR 1 encI w0 fp1 A1 l1) :
    Calls Try.prog 58 #[.pointer (some ⟨b0, 0, none⟩), .slice A1 (l1).length cap1, .int .i64 (p2)] w0 fun e w' => e = .returned (.bool (r)) ∧ Chg [] w0 w' := by
  have L0_1 := F0_1.low
  have L0_2 := F0_2.low
  have L0_3 := F0_3.low
  have L0 := lt1 F0.lt
  have L1 := F1.low
  have hB : Chg [] w0 w0 := Chg.refl _ _
  have hZ := Nat.le_refl w0.heap.size
  unfold m_impl_Wiring_pairsOk_bimplWiring at hm
  refine enterE (N := 63) Try.func58 (by rfl) Try.ntmps58 (by simp) [(0, .pointer (some ⟨b0, 0, none⟩)), (1, .slice A1 (l1).length cap1), (2, .int .i64 (p2))] (by rfl) (by kernel_rfl) (fun a => ?_)
  refine cW_seq ?_
  refine cW_region ?_
  refine wS_pure 1 [(6, .bool (false))] (by kernel_rfl) ?_
  refine wS_end (by rfl) ?_
  refine eX_then ?_
  refine cW_seq ?_
  refine cW_seq ?_
  refine cW_region ?_
  refine wS_pure 3 [(11, .int .i64 (0)), (10, .int .i64 (((l1).length : Int))), (9, .slice A1 (l1).length cap1)] (by kernel_rfl) ?_
  refine wS_end (by rfl) ?_
  refine eX_then ?_
  obtain ⟨r194, hr195, hm⟩ := bindE hm
  have hm196 := hm
  refine cW_cut (fun a' w' => Sum.inl (()) = r194 ∧ Fr 63 [(1, .slice A1 (l1).length cap1)] a' ∧ SlR 1 encI w' fp1 A1 l1 ∧ Chg [] w0 w' ∧ w0.heap.size ≤ w'.heap.size) ?_ ?_
  · refine cW_block ?_
    refine cW_loop _ (fun (s197 : Int) a' w' => ∃ x187 : Int, x187 = s197 ∧ Fr 63 [(0, .pointer (some ⟨b0, 0, none⟩)), (1, .slice A1 (l1).length cap1), (2, .int .i64 (p2)), (9, .slice A1 (l1).length cap1), (10, .int .i64 (((l1).length : Int))), (11, .int .i64 (x187))] a' ∧ SlR 1 encI w' fp0_1 A0_1 l0_1 ∧ SlR 1 encI w' fp0_2 A0_2 l0_2 ∧ Sl 1 encI w' fp0_3 A0_3 l0_3 ∧ Cl w' b0 27 [.int .i64 (q0_0), .slice A0_1 (l0_1).length cap0_1, .slice A0_2 (l0_2).length cap0_2, .slice A0_3 (l0_3).length cap0_3] ∧ SlR 1 encI w' fp1 A1 l1 ∧ Chg [] w0 w' ∧ w0.heap.size ≤ w'.heap.size) hr195 (fun hst => ⟨0, rfl, Fr.of hst (by kernel_rfl), F0_1, F0_2, F0_3, F0, F1, hB, hZ⟩) ?_
    rintro _ c198 a' w186 ⟨x187, rfl, hF188, F189, F190, F191, F192, F193, hB, hZ⟩ hx199
    refine Fr.goOn hF188 (by kernel_rfl) ?_
    have hm := hx199
    unfold m_impl_Wiring_pairsOk_bimplWiring_s1 at hm
    refine cW_seq ?_
    refine cW_region ?_
    refine wS_pure 1 [(12, .bool (decide (x187 < (((l1).length : Int)))))] (by kernel_rfl) ?_
    refine wS_end (by rfl) ?_
    refine eX_then ?_
    refine cW_seq ?_
    refine cW_cond (t := decide (x187 < (((l1).length : Int)))) (by kernel_rfl) (fun hb200 => ?_) (fun hb200 => ?_)
    · have hm := condT hb200 hm
      refine cW_skip ?_
      refine eX_then ?_
      refine cW_seq ?_
      refine cW_block ?_
      refine cW_seq ?_
      refine cW_region ?_
      refine wS_pure 1 [(13, .int .i64 (x187))] (by kernel_rfl) ?_
      obtain ⟨x201, hx202, hm⟩ := bindE hm
      refine wS_idx (d := 14) (T := 24) (A := A1) (n := (l1).length) (cap := cap1) (kd := .i64) (m := x187) (by kernel_rfl) sl24 (F193.is hx202) ?_
      obtain ⟨A203, cap204, hc206, F205, K207⟩ := SlR.row F193 hx202
      refine wS_load1 (d := 15) (T := 25) (ad := (elA A1 1 (x187) 0)) (v := .slice A203 (x201).length cap204) (by kernel_rfl) vt25 hc206 ?_
      refine wS_pure 2 [(8, .slice A203 (x201).length cap204), (7, .int .i64 (x187))] (by kernel_rfl) ?_
      refine wS_end (by rfl) ?_
      refine eX_then ?_
      refine cW_seq ?_
      refine cW_drawnTail [] 39 (by kernel_rfl) (by kernel_rfl) (fun w242 hc243 => ?_)
      replace F189 := F189.chg hc243 Dj.nil
      replace F190 := F190.chg hc243 Dj.nil
      replace F191 := F191.chg hc243 Dj.nil
      replace F192 := F192.chg hc243 notNil
      replace F193 := F193.chg hc243 Dj.nil
      replace F205 := F205.chg hc243 Dj.nil
      replace hB := hB.inS hc243 inNil
      replace hZ := Nat.le_trans hZ hc243.size
      have hS := Chg.refl [] w242
      have Z244 := F189
      have Z245 := F190
      have Z246 := F191
      have Z247 := F192
      have Z248 := F193
      have Z249 := F205
      refine wH_take [0, 1, 2, 3, 4] [4, 3, 2, 1, 0] [(20, .bool ((((x201).length : Int)) != p2)), (19, .bool ((((x201).length : Int)) != p2)), (18, .int .i64 (p2)), (17, .int .i64 (((x201).length : Int))), (16, .slice A203 (x201).length cap204)] (by kernel_rfl) (qT (qT (qB (qT (qL (qB (qT (qT qZ)))))))) (by kernel_rfl) ?_
      refine wH_bool ((((x201).length : Int)) != p2) (fun hb250 => ?_) (fun hb250 => ?_)
      · have hm := condT hb250 hm
        rewrite [hb250]
        refine wH_take [5, 6, 7, 8, 9, 10, 11, 12, 13, 14, 15, 16, 17, 18, 19, 20, 21, 22, 23, 24, 25, 26, 27, 28, 29, 30, 31, 32, 33, 34, 35, 36, 37, 38] [38, 37, 36, 35, 34, 33, 32, 31, 30, 29, 28, 27, 26, 25, 24, 23, 22, 21, 20, 19, 18, 17, 16, 15, 14, 13, 12, 11, 10, 9, 8, 7, 6, 5, 4, 3, 2, 1, 0] [(54, undef), (53, undef), (52, undef), (51, undef), (50, undef), (49, undef), (48, undef), (47, undef), (46, undef), (45, .bool (true)), (44, .bool (true)), (43, undef), (42, undef), (41, undef), (40, undef), (39, undef), (38, undef), (37, undef), (36, undef), (35, .bool (true)), (34, .bool (true)), (33, undef), (32, undef), (31, undef), (30, undef), (29, undef), (28, undef), (27, undef), (26, .bool (true)), (25, .bool (true)), (24, undef), (23, undef), (22, undef), (21, undef)] (by kernel_rfl) (qT (qT (qB (qT (qL (qB (qT (qT qZ)))))))) (by kernel_rfl) ?_
        refine wH_done (by kernel_rfl) ?_
        refine eX_tail ?_
        refine wS_pure 4 [(58, .bool (true)), (57, undef), (56, undef), (55, undef)] (by kernel_rfl) ?_
        refine wS_end (by rfl) ?_
        refine eX_then ?_
        refine cW_prune [(0, .pointer (some ⟨b0, 0, none⟩)), (1, .slice A1 (l1).length cap1), (2, .int .i64 (p2)), (9, .slice A1 (l1).length cap1), (10, .int .i64 (((l1).length : Int))), (11, .int .i64 (x187)), (58, .bool (true))] (by kernel_rfl) (by kernel_rfl) (fun a251 => ?_)
        refine cW_cond_t (by kernel_rfl) ?_
        refine cW_seq ?_
        refine cW_region ?_
        refine wS_pure 1 [(6, .bool (false))] (by kernel_rfl) ?_
        refine wS_end (by rfl) ?_
        refine eX_then ?_
        refine cW_ret ?_
        refine eX_block_ret ?_
        refine eX_then_ret ?_
        have hq : (some (Ctl.out (Sum.inr false)) : Option (Ctl (Int) (Sum (Unit) ((Bool))))) = some _ := hm
        replace hq := someE hq
        subst hq
        refine eX_outR hx199 (fun hr => ?_)
        subst hr
        refine eX_block_ret ?_
        refine eX_then_ret ?_
        refine eX_then_ret ?_
        have hq : (some false : Option ((Bool))) = some _ := hm196
        replace hq := someE hq
        subst hq
        refine eX_ret (vs := [.bool (false)]) [.tmp 6] (by rfl) ⟨by (show lkE _ _ _ = _); kernel_rfl, trivial⟩ ?_
        exact ⟨rfl, hB⟩
      · have hm := condF hb250 hm
        rewrite [hb250]
        refine wH_take [5] [5, 4, 3, 2, 1, 0] [(21, .slice A203 (x201).length cap204)] (by kernel_rfl) (qT (qT (qB (qT (qL (qB (qT (qT qZ)))))))) (by kernel_rfl) ?_
        obtain ⟨x252, hx253, hm⟩ := bindE hm
        refine wH_idx (i := 6) (d := 22) (T := 25) (A := A203) (n := (x201).length) (cap := cap204) (kd := .i64) (m := 0) (by kernel_rfl) (qT (qT (qB (qT (qL (qB (qT (qT qZ)))))))) (by kernel_rfl) (by kernel_rfl) sl25 (F205.is hx253) ?_
        refine wH_load1 (i := 7) (d := 23) (T := 2) (ad := (elA A203 1 (0) 0)) (v := .int .i64 (x252)) (by kernel_rfl) (qT (qT (qB (qT (qL (qB (qT (qT qZ)))))))) (by kernel_rfl) (by kernel_rfl) vt2 (fun W hW => Sl.cell (Z249.chg hW Dj.nil) hx253 0 (by rfl)) ?_
        refine wH_take [8, 9, 10] [10, 9, 8, 7, 6, 5, 4, 3, 2, 1, 0] [(26, .bool (decide (x252 < 0))), (25, .bool (decide (x252 < 0))), (24, .bool (decide (x252 < 0)))] (by kernel_rfl) (qT (qT (qB (qT (qL (qB (qT (qT qZ)))))))) (by kernel_rfl) ?_
        refine wH_bool (decide (x252 < 0)) (fun hb254 => ?_) (fun hb254 => ?_)
        · have hm := condT hb254 hm
          rewrite [hb254]
          refine wH_take [11, 12, 13, 14, 15, 16, 17, 18, 19, 20, 21, 22, 23, 24, 25, 26, 27, 28, 29, 30, 31, 32, 33, 34, 35, 36, 37, 38] [38, 37, 36, 35, 34, 33, 32, 31, 30, 29, 28, 27, 26, 25, 24, 23, 22, 21, 20, 19, 18, 17, 16, 15, 14, 13, 12, 11, 10, 9, 8, 7, 6, 5, 4, 3, 2, 1, 0] [(54, undef), (53, undef), (52, undef), (51, undef), (50, undef), (49, undef), (48, undef), (47, undef), (46, undef), (45, .bool (true)), (44, .bool (true)), (43, undef), (42, undef), (41, undef), (40, undef), (39, undef), (38, undef), (37, undef), (36, undef), (35, .bool (true)), (34, .bool (true)), (33, undef), (32, undef), (31, undef), (30, undef), (29, undef), (28, undef), (27, undef)] (by kernel_rfl) (qT (qT (qB (qT (qL (qB (qT (qT qZ)))))))) (by kernel_rfl) ?_
          refine wH_done (by kernel_rfl) ?_
          refine eX_tail ?_
          refine wS_pure 4 [(58, .bool (true)), (57, undef), (56, undef), (55, undef)] (by kernel_rfl) ?_
          refine wS_end (by rfl) ?_
          refine eX_then ?_
          refine cW_prune [(0, .pointer (some ⟨b0, 0, none⟩)), (1, .slice A1 (l1).length cap1), (2, .int .i64 (p2)), (9, .slice A1 (l1).length cap1), (10, .int .i64 (((l1).length : Int))), (11, .int .i64 (x187)), (58, .bool (true))] (by kernel_rfl) (by kernel_rfl) (fun a255 => ?_)
          refine cW_cond_t (by kernel_rfl) ?_
          refine cW_seq ?_
          refine cW_region ?_
          refine wS_pure 1 [(6, .bool (false))] (by kernel_rfl) ?_
          refine wS_end (by rfl) ?_
          refine eX_then ?_
          refine cW_ret ?_
          refine eX_block_ret ?_
          refine eX_then_ret ?_
          have hq : (some (Ctl.out (Sum.inr false)) : Option (Ctl (Int) (Sum (Unit) ((Bool))))) = some _ := hm
          replace hq := someE hq
          subst hq
          refine eX_outR hx199 (fun hr => ?_)
          subst hr
          refine eX_block_ret ?_
          refine eX_then_ret ?_
          refine eX_then_ret ?_
          have hq : (some false : Option ((Bool))) = some _ := hm196
          replace hq := someE hq
          subst hq
          refine eX_ret (vs := [.bool (false)]) [.tmp 6] (by rfl) ⟨by (show lkE _ _ _ = _); kernel_rfl, trivial⟩ ?_
          exact ⟨rfl, hB⟩
        · have hm := condF hb254 hm
          rewrite [hb254]
          refine wH_take [11] [11, 10, 9, 8, 7, 6, 5, 4, 3, 2, 1, 0] [(27, .slice A203 (x201).length cap204)] (by kernel_rfl) (qT (qT (qB (qT (qL (qB (qT (qT qZ)))))))) (by kernel_rfl) ?_
          obtain ⟨x256, hx257, hm⟩ := bindE hm
          refine wH_idx (i := 12) (d := 28) (T := 25) (A := A203) (n := (x201).length) (cap := cap204) (kd := .i64) (m := 0) (by kernel_rfl) (qT (qT (qB (qT (qL (qB (qT (qT qZ)))))))) (by kernel_rfl) (by kernel_rfl) sl25 (F205.is hx257) ?_
          refine wH_load1 (i := 13) (d := 29) (T := 2) (ad := (elA A203 1 (0) 0)) (v := .int .i64 (x256)) (by kernel_rfl) (qT (qT (qB (qT (qL (qB (qT (qT qZ)))))))) (by kernel_rfl) (by kernel_rfl) vt2 (fun W hW => Sl.cell (Z249.chg hW Dj.nil) hx257 0 (by rfl)) ?_
          refine wH_take [14] [14, 13, 12, 11, 10, 9, 8, 7, 6, 5, 4, 3, 2, 1, 0] [(30, .slice A203 (x201).length cap204)] (by kernel_rfl) (qT (qT (qB (qT (qL (qB (qT (qT qZ)))))))) (by kernel_rfl) ?_
          obtain ⟨x258, hx259, hm⟩ := bindE hm
          refine wH_idx (i := 15) (d := 31) (T := 25) (A := A203) (n := (x201).length) (cap := cap204) (kd := .i64) (m := 1) (by kernel_rfl) (qT (qT (qB (qT (qL (qB (qT (qT qZ)))))))) (by kernel_rfl) (by kernel_rfl) sl25 (F205.is hx259) ?_
          refine wH_load1 (i := 16) (d := 32) (T := 2) (ad := (elA A203 1 (1) 0)) (v := .int .i64 (x258)) (by kernel_rfl) (qT (qT (qB (qT (qL (qB (qT (qT qZ)))))))) (by kernel_rfl) (by kernel_rfl) vt2 (fun W hW => Sl.cell (Z249.chg hW Dj.nil) hx259 0 (by rfl)) ?_
          refine wH_take [17, 18, 19] [19, 18, 17, 16, 15, 14, 13, 12, 11, 10, 9, 8, 7, 6, 5, 4, 3, 2, 1, 0] [(35, .bool (decide (x256 ≥ x258))), (34, .bool (decide (x256 ≥ x258))), (33, .bool (decide (x256 ≥ x258)))] (by kernel_rfl) (qT (qT (qB (qT (qL (qB (qT (qT qZ)))))))) (by kernel_rfl) ?_
          refine wH_bool (decide (x256 ≥ x258)) (fun hb260 => ?_) (fun hb260 => ?_)
          · have hm := condT hb260 hm
            rewrite [hb260]
            refine wH_take [20, 21, 22, 23, 24, 25, 26, 27, 28, 29, 30, 31, 32, 33, 34, 35, 36, 37, 38] [38, 37, 36, 35, 34, 33, 32, 31, 30, 29, 28, 27, 26, 25, 24, 23, 22, 21, 20, 19, 18, 17, 16, 15, 14, 13, 12, 11, 10, 9, 8, 7, 6, 5, 4, 3, 2, 1, 0] [(54, undef), (53, undef), (52, undef), (51, undef), (50, undef), (49, undef), (48, undef), (47, undef), (46, undef), (45, .bool (true)), (44, .bool (true)), (43, undef), (42, undef), (41, undef), (40, undef), (39, undef), (38, undef), (37, undef), (36, undef)] (by kernel_rfl) (qT (qT (qB (qT (qL (qB (qT (qT qZ)))))))) (by kernel_rfl) ?_
            refine wH_done (by kernel_rfl) ?_
            refine eX_tail ?_
            refine wS_pure 4 [(58, .bool (true)), (57, undef), (56, undef), (55, undef)] (by kernel_rfl) ?_
            refine wS_end (by rfl) ?_
            refine eX_then ?_
            refine cW_prune [(0, .pointer (some ⟨b0, 0, none⟩)), (1, .slice A1 (l1).length cap1), (2, .int .i64 (p2)), (9, .slice A1 (l1).length cap1), (10, .int .i64 (((l1).length : Int))), (11, .int .i64 (x187)), (58, .bool (true))] (by kernel_rfl) (by kernel_rfl) (fun a261 => ?_)
            refine cW_cond_t (by kernel_rfl) ?_
            refine cW_seq ?_
            refine cW_region ?_
            refine wS_pure 1 [(6, .bool (false))] (by kernel_rfl) ?_
            refine wS_end (by rfl) ?_
            refine eX_then ?_
            refine cW_ret ?_
            refine eX_block_ret ?_
            refine eX_then_ret ?_
            have hq : (some (Ctl.out (Sum.inr false)) : Option (Ctl (Int) (Sum (Unit) ((Bool))))) = some _ := hm
            replace hq := someE hq
            subst hq
            refine eX_outR hx199 (fun hr => ?_)
            subst hr
            refine eX_block_ret ?_
            refine eX_then_ret ?_
            refine eX_then_ret ?_
            have hq : (some false : Option ((Bool))) = some _ := hm196
            replace hq := someE hq
            subst hq
            refine eX_ret (vs := [.bool (false)]) [.tmp 6] (by rfl) ⟨by (show lkE _ _ _ = _); kernel_rfl, trivial⟩ ?_
            exact ⟨rfl, hB⟩
          · have hm := condF hb260 hm
            rewrite [hb260]
            refine wH_take [20] [20, 19, 18, 17, 16, 15, 14, 13, 12, 11, 10, 9, 8, 7, 6, 5, 4, 3, 2, 1, 0] [(36, .slice A203 (x201).length cap204)] (by kernel_rfl) (qT (qT (qB (qT (qL (qB (qT (qT qZ)))))))) (by kernel_rfl) ?_
            obtain ⟨x262, hx263, hm⟩ := bindE hm
            refine wH_idx (i := 21) (d := 37) (T := 25) (A := A203) (n := (x201).length) (cap := cap204) (kd := .i64) (m := 1) (by kernel_rfl) (qT (qT (qB (qT (qL (qB (qT (qT qZ)))))))) (by kernel_rfl) (by kernel_rfl) sl25 (F205.is hx263) ?_
            refine wH_load1 (i := 22) (d := 38) (T := 2) (ad := (elA A203 1 (1) 0)) (v := .int .i64 (x262)) (by kernel_rfl) (qT (qT (qB (qT (qL (qB (qT (qT qZ)))))))) (by kernel_rfl) (by kernel_rfl) vt2 (fun W hW => Sl.cell (Z249.chg hW Dj.nil) hx263 0 (by rfl)) ?_
            refine wH_take [23, 24, 25] [25, 24, 23, 22, 21, 20, 19, 18, 17, 16, 15, 14, 13, 12, 11, 10, 9, 8, 7, 6, 5, 4, 3, 2, 1, 0] [(41, .pointer (some ⟨b0, 0, none⟩)), (40, .pointer (some ⟨b0, 0, none⟩)), (39, .pointer (some ⟨b0, 0, none⟩))] (by kernel_rfl) (qT (qT (qB (qT (qL (qB (qT (qT qZ)))))))) (by kernel_rfl) ?_
            refine wH_load1 (i := 26) (d := 42) (T := 2) (ad := ⟨b0, 0, none⟩) (v := .int .i64 (q0_0)) (by kernel_rfl) (qT (qT (qB (qT (qL (qB (qT (qT qZ)))))))) (by kernel_rfl) (by kernel_rfl) vt2 (fun W hW => (Z247.chg hW notNil).cell 0) ?_
            refine wH_take [27, 28, 29] [29, 28, 27, 26, 25, 24, 23, 22, 21, 20, 19, 18, 17, 16, 15, 14, 13, 12, 11, 10, 9, 8, 7, 6, 5, 4, 3, 2, 1, 0] [(45, .bool (decide (x262 ≥ q0_0))), (44, .bool (decide (x262 ≥ q0_0))), (43, .bool (decide (x262 ≥ q0_0)))] (by kernel_rfl) (qT (qT (qB (qT (qL (qB (qT (qT qZ)))))))) (by kernel_rfl) ?_
            refine wH_bool (decide (x262 ≥ q0_0)) (fun hb264 => ?_) (fun hb264 => ?_)
            · have hm := condT hb264 hm
              rewrite [hb264]
              refine wH_take [30, 31, 32, 33, 34, 35, 36, 37, 38] [38, 37, 36, 35, 34, 33, 32, 31, 30, 29, 28, 27, 26, 25, 24, 23, 22, 21, 20, 19, 18, 17, 16, 15, 14, 13, 12, 11, 10, 9, 8, 7, 6, 5, 4, 3, 2, 1, 0] [(54, undef), (53, undef), (52, undef), (51, undef), (50, undef), (49, undef), (48, undef), (47, undef), (46, undef)] (by kernel_rfl) (qT (qT (qB (qT (qL (qB (qT (qT qZ)))))))) (by kernel_rfl) ?_
              refine wH_done (by kernel_rfl) ?_
              refine eX_tail ?_
              refine wS_pure 4 [(58, .bool (true)), (57, undef), (56, undef), (55, undef)] (by kernel_rfl) ?_
              refine wS_end (by rfl) ?_
              refine eX_then ?_
              refine cW_prune [(0, .pointer (some ⟨b0, 0, none⟩)), (1, .slice A1 (l1).length cap1), (2, .int .i64 (p2)), (9, .slice A1 (l1).length cap1), (10, .int .i64 (((l1).length : Int))), (11, .int .i64 (x187)), (58, .bool (true))] (by kernel_rfl) (by kernel_rfl) (fun a265 => ?_)
              refine cW_cond_t (by kernel_rfl) ?_
              refine cW_seq ?_
              refine cW_region ?_
              refine wS_pure 1 [(6, .bool (false))] (by kernel_rfl) ?_
              refine wS_end (by rfl) ?_
              refine eX_then ?_
              refine cW_ret ?_
              refine eX_block_ret ?_
              refine eX_then_ret ?_
              have hq : (some (Ctl.out (Sum.inr false)) : Option (Ctl (Int) (Sum (Unit) ((Bool))))) = some _ := hm
              replace hq := someE hq
              subst hq
              refine eX_outR hx199 (fun hr => ?_)
              subst hr
              refine eX_block_ret ?_
              refine eX_then_ret ?_
              refine eX_then_ret ?_
              have hq : (some false : Option ((Bool))) = some _ := hm196
              replace hq := someE hq
              subst hq
              refine eX_ret (vs := [.bool (false)]) [.tmp 6] (by rfl) ⟨by (show lkE _ _ _ = _); kernel_rfl, trivial⟩ ?_
              exact ⟨rfl, hB⟩
            · have hm := condF hb264 hm
              rewrite [hb264]
              refine wH_take [30, 31, 32] [32, 31, 30, 29, 28, 27, 26, 25, 24, 23, 22, 21, 20, 19, 18, 17, 16, 15, 14, 13, 12, 11, 10, 9, 8, 7, 6, 5, 4, 3, 2, 1, 0] [(48, .bool (decide (x187 > 0))), (47, .bool (decide (x187 > 0))), (46, .int .i64 (x187))] (by kernel_rfl) (qT (qT (qB (qT (qL (qB (qT (qT qZ)))))))) (by kernel_rfl) ?_
              refine wH_bool (decide (x187 > 0)) (fun hb266 => ?_) (fun hb266 => ?_)
              · have hm := condT hb266 hm
                rewrite [hb266]
                refine wH_take [33, 34, 35] [35, 34, 33, 32, 31, 30, 29, 28, 27, 26, 25, 24, 23, 22, 21, 20, 19, 18, 17, 16, 15, 14, 13, 12, 11, 10, 9, 8, 7, 6, 5, 4, 3, 2, 1, 0] [(51, .int .i64 (wr (x187 - 1))), (50, .int .i64 (x187)), (49, .slice A1 (l1).length cap1)] (by kernel_rfl) (qT (qT (qB (qT (qL (qB (qT (qT qZ)))))))) (by kernel_rfl) ?_
                obtain ⟨x267, hx268, hm⟩ := bindE hm
                refine wH_idx (i := 36) (d := 52) (T := 24) (A := A1) (n := (l1).length) (cap := cap1) (kd := .i64) (m := wr (x187 - 1)) (by kernel_rfl) (qT (qT (qB (qT (qL (qB (qT (qT qZ)))))))) (by kernel_rfl) (by kernel_rfl) sl24 (F193.is hx268) ?_
                obtain ⟨A269, cap270, hc272, F271, K273⟩ := SlR.row Z248 hx268
                refine wH_load1 (i := 37) (d := 53) (T := 25) (ad := (elA A1 1 (wr (x187 - 1)) 0)) (v := .slice A269 (x267).length cap270) (by kernel_rfl) (qT (qT (qB (qT (qL (qB (qT (qT qZ)))))))) (by kernel_rfl) (by kernel_rfl) vt25 (fun W hW => hW.keep hc272) ?_
                refine wH_take [38] [38, 37, 36, 35, 34, 33, 32, 31, 30, 29, 28, 27, 26, 25, 24, 23, 22, 21, 20, 19, 18, 17, 16, 15, 14, 13, 12, 11, 10, 9, 8, 7, 6, 5, 4, 3, 2, 1, 0] [(54, .slice A203 (x201).length cap204)] (by kernel_rfl) (qT (qT (qB (qT (qL (qB (qT (qT qZ)))))))) (by kernel_rfl) ?_
                refine wH_done (by kernel_rfl) ?_
                refine eX_tail ?_
                obtain ⟨y275, hy276, hm⟩ := bindE hm
                refine wS_calls (d := 55) (f := 100) (vs := [.slice A269 (x267).length cap270, .slice A203 (x201).length cap204]) (by kernel_rfl) ent100 (c_slices_Compare_int64_int64 hy276 F271 F205) ?_
                rintro _ w277 ⟨rfl, hc278⟩
                replace F189 := F189.chg hc278 Dj.nil
                replace F190 := F190.chg hc278 Dj.nil
                replace F191 := F191.chg hc278 Dj.nil
                replace F192 := F192.chg hc278 notNil
                replace F193 := F193.chg hc278 Dj.nil
                replace F205 := F205.chg hc278 Dj.nil
                replace F271 := F271.chg hc278 Dj.nil
                replace hB := hB.inS hc278 inNil
                replace hZ := Nat.le_trans hZ hc278.size
                refine ⟨.int .i64 (y275), rfl, ?_⟩
                refine wS_pure 3 [(58, .bool (decide (y275 ≥ 0))), (57, .bool (decide (y275 ≥ 0))), (56, .bool (decide (y275 ≥ 0)))] (by kernel_rfl) ?_
                refine wS_end (by rfl) ?_
                refine eX_then ?_
                refine cW_prune [(0, .pointer (some ⟨b0, 0, none⟩)), (1, .slice A1 (l1).length cap1), (2, .int .i64 (p2)), (9, .slice A1 (l1).length cap1), (10, .int .i64 (((l1).length : Int))), (11, .int .i64 (x187)), (58, .bool (decide (y275 ≥ 0)))] (by kernel_rfl) (by kernel_rfl) (fun a279 => ?_)
                refine cW_cond (t := decide (y275 ≥ 0)) (by kernel_rfl) (fun hb280 => ?_) (fun hb280 => ?_)
                · have hm := condT hb280 hm
                  refine cW_seq ?_
                  refine cW_region ?_
                  refine wS_pure 1 [(6, .bool (false))] (by kernel_rfl) ?_
                  refine wS_end (by rfl) ?_
                  refine eX_then ?_
                  refine cW_ret ?_
                  refine eX_block_ret ?_
                  refine eX_then_ret ?_
                  have hq : (some (Ctl.out (Sum.inr false)) : Option (Ctl (Int) (Sum (Unit) ((Bool))))) = some _ := hm
                  replace hq := someE hq
                  subst hq
                  refine eX_outR hx199 (fun hr => ?_)
                  subst hr
                  refine eX_block_ret ?_
                  refine eX_then_ret ?_
                  refine eX_then_ret ?_
                  have hq : (some false : Option ((Bool))) = some _ := hm196
                  replace hq := someE hq
                  subst hq
                  refine eX_ret (vs := [.bool (false)]) [.tmp 6] (by rfl) ⟨by (show lkE _ _ _ = _); kernel_rfl, trivial⟩ ?_
                  exact ⟨rfl, hB⟩
                · have hm := condF hb280 hm
                  refine cW_skip ?_
                  refine eX_block ?_
                  refine eX_then ?_
                  refine cW_region ?_
                  refine wS_pure 2 [(11, .int .i64 (wr (x187 + 1))), (59, .int .i64 (wr (x187 + 1)))] (by kernel_rfl) ?_
                  refine wS_end (by rfl) ?_
                  have hq : (some (Ctl.next (wr (x187 + 1))) : Option (Ctl (Int) (Sum (Unit) ((Bool))))) = some _ := hm
                  replace hq := someE hq
                  subst hq
                  exact eX_next hx199 (fun hst => ⟨wr (x187 + 1), rfl, Fr.of hst (by kernel_rfl), F189, F190, F191, F192, F193, hB, hZ⟩)
              · have hm := condF hb266 hm
                rewrite [hb266]
                refine wH_take [33, 34, 35, 36, 37, 38] [38, 37, 36, 35, 34, 33, 32, 31, 30, 29, 28, 27, 26, 25, 24, 23, 22, 21, 20, 19, 18, 17, 16, 15, 14, 13, 12, 11, 10, 9, 8, 7, 6, 5, 4, 3, 2, 1, 0] [(54, undef), (53, undef), (52, undef), (51, undef), (50, undef), (49, undef)] (by kernel_rfl) (qT (qT (qB (qT (qL (qB (qT (qT qZ)))))))) (by kernel_rfl) ?_
                refine wH_done (by kernel_rfl) ?_
                refine eX_tail ?_
                refine wS_pure 4 [(58, .bool (false)), (57, .bool (false)), (56, undef), (55, undef)] (by kernel_rfl) ?_
                refine wS_end (by rfl) ?_
                refine eX_then ?_
                refine cW_prune [(0, .pointer (some ⟨b0, 0, none⟩)), (1, .slice A1 (l1).length cap1), (2, .int .i64 (p2)), (9, .slice A1 (l1).length cap1), (10, .int .i64 (((l1).length : Int))), (11, .int .i64 (x187)), (58, .bool (false))] (by kernel_rfl) (by kernel_rfl) (fun a281 => ?_)
                refine cW_cond_f (by kernel_rfl) ?_
                refine cW_skip ?_
                refine eX_block ?_
                refine eX_then ?_
                refine cW_region ?_
                refine wS_pure 2 [(11, .int .i64 (wr (x187 + 1))), (59, .int .i64 (wr (x187 + 1)))] (by kernel_rfl) ?_
                refine wS_end (by rfl) ?_
                have hq : (some (Ctl.next (wr (x187 + 1))) : Option (Ctl (Int) (Sum (Unit) ((Bool))))) = some _ := hm
                replace hq := someE hq
                subst hq
                exact eX_next hx199 (fun hst => ⟨wr (x187 + 1), rfl, Fr.of hst (by kernel_rfl), F189, F190, F191, F192, F193, hB, hZ⟩)
    · have hm := condF hb200 hm
      refine cW_exit ?_
      refine eX_then_exit ?_
      have hq : (some (Ctl.out (Sum.inl (()))) : Option (Ctl (Int) (Sum (Unit) ((Bool))))) = some _ := hm
      replace hq := someE hq
      subst hq
      refine eX_outX hx199 (fun hr282 => ?_)
      replace hr282 := hr282.symm
      subst hr282
      refine eX_block_hit ?_
      exact eX_J (fun hst => ⟨rfl, Fr.of hst (by kernel_rfl), F193, hB, hZ⟩)
  · rintro a' w183 ⟨hJ, hF184, F185, hB, hZ⟩
    subst hJ
    refine Fr.goX hF184 (by kernel_rfl) ?_
    refine eX_then ?_
    refine cW_seq ?_
    refine cW_region ?_
    refine wS_pure 4 [(6, .bool (decide ((((l1).length : Int)) ≤ 30))), (62, .bool (decide ((((l1).length : Int)) ≤ 30))), (61, .int .i64 (((l1).length : Int))), (60, .slice A1 (l1).length cap1)] (by kernel_rfl) ?_
    refine wS_end (by rfl) ?_
    refine eX_then ?_
    refine cW_ret ?_
    have hq : (some (decide ((((l1).length : Int)) ≤ 30)) : Option ((Bool))) = some _ := hm
    replace hq := someE hq
    subst hq
    refine eX_ret (vs := [.bool (decide ((((l1).length : Int)) ≤ 30))]) [.tmp 6] (by rfl) ⟨by (show lkE _ _ _ = _); kernel_rfl, trivial⟩ ?_
    exact ⟨rfl, hB⟩

set_option maxRecDepth 100000 in
/-- slices.IndexFunc[[][]int64,[]int64] -/
theorem c_slices_IndexFunc_int64_int64_impl_ValidWiring_1 {w0 : World} {l0 : List (List (Int))} {A0 : Option Addr} {cap0 : Nat} {fp0 : List Nat} {r : (Int)} (hm : m_slices_IndexFunc_int64_int64_impl_ValidWiring_1 l0 = some r) (F0 : SlR 1 encI w0 fp0 A0 l0) :
    Calls Try.prog 101 #[.slice A0 (l0).length cap0, .func (.func 60) #[] #[]] w0 fun e w' => e = .returned (.int .i64 (r)) ∧ Chg [] w0 w' := by
  have L0 := F0.low
  have hB : Chg [] w0 w0 := Chg.refl _ _
  have hZ := Nat.le_refl w0.heap.size
  unfold m_slices_IndexFunc_int64_int64_impl_ValidWiring_1 at hm
  refine enterE (N := 19) Try.func101 (by rfl) Try.ntmps101 (by simp) [(0, .slice A0 (l0).length cap0), (1, .func (.func 60) #[] #[])] (by rfl) (by kernel_rfl) (fun a => ?_)
  refine cW_seq ?_
  refine cW_region ?_
  refine wS_pure 1 [(4, .int .i64 (0))] (by kernel_rfl) ?_
  refine wS_end (by rfl) ?_
  refine eX_then ?_
  refine cW_seq ?_
  refine cW_seq ?_
  refine cW_region ?_
  refine wS_pure 3 [(8, .int .i64 (0)), (7, .int .i64 (((l0).length : Int))), (6, .slice A0 (l0).length cap0)] (by kernel_rfl) ?_
  refine wS_end (by rfl) ?_
  refine eX_then ?_
  obtain ⟨r41, hr42, hm⟩ := bindE hm
  have hm43 := hm
  refine cW_cut (fun a' w' => Sum.inl (()) = r41 ∧ Fr 19 [] a' ∧ Chg [] w0 w' ∧ w0.heap.size ≤ w'.heap.size) ?_ ?_
  · refine cW_block ?_
    refine cW_loop _ (fun (s44 : Int) a' w' => ∃ x38 : Int, x38 = s44 ∧ Fr 19 [(0, .slice A0 (l0).length cap0), (1, .func (.func 60) #[] #[]), (7, .int .i64 (((l0).length : Int))), (8, .int .i64 (x38))] a' ∧ SlR 1 encI w' fp0 A0 l0 ∧ Chg [] w0 w' ∧ w0.heap.size ≤ w'.heap.size) hr42 (fun hst => ⟨0, rfl, Fr.of hst (by kernel_rfl), F0, hB, hZ⟩) ?_
    rintro _ c45 a' w37 ⟨x38, rfl, hF39, F40, hB, hZ⟩ hx46
    refine Fr.goOn hF39 (by kernel_rfl) ?_
    have hm := hx46
    unfold m_slices_IndexFunc_int64_int64_impl_ValidWiring_1_s1 at hm
    refine cW_seq ?_
    refine cW_region ?_
    refine wS_pure 1 [(9, .bool (decide (x38 < (((l0).length : Int)))))] (by kernel_rfl) ?_
    refine wS_end (by rfl) ?_
    refine eX_then ?_
    refine cW_seq ?_
    refine cW_cond (t := decide (x38 < (((l0).length : Int)))) (by kernel_rfl) (fun hb47 => ?_) (fun hb47 => ?_)
    · have hm := condT hb47 hm
      refine cW_skip ?_
      refine eX_then ?_
      refine cW_seq ?_
      refine cW_block ?_
      refine cW_seq ?_
      refine cW_region ?_
      refine wS_pure 2 [(5, .int .i64 (x38)), (10, .int .i64 (x38))] (by kernel_rfl) ?_
      refine wS_end (by rfl) ?_
      refine eX_then ?_
      refine cW_seq ?_
      refine cW_region ?_
      refine wS_pure 3 [(13, .int .i64 (x38)), (12, .slice A0 (l0).length cap0), (11, .func (.func 60) #[] #[])] (by kernel_rfl) ?_
      obtain ⟨x48, hx49, hm⟩ := bindE hm
      refine wS_idx (d := 14) (T := 24) (A := A0) (n := (l0).length) (cap := cap0) (kd := .i64) (m := x38) (by kernel_rfl) sl24 (F40.is hx49) ?_
      obtain ⟨A50, cap51, hc53, F52, K54⟩ := SlR.row F40 hx49
      refine wS_load1 (d := 15) (T := 25) (ad := (elA A0 1 (x38) 0)) (v := .slice A50 (x48).length cap51) (by kernel_rfl) vt25 hc53 ?_
      obtain ⟨y56, hy57, hm⟩ := bindE hm
      refine wS_calls (d := 16) (f := 60) (vs := [.slice A50 (x48).length cap51]) (by kernel_rfl) ent60 (c_impl_ValidWiring_1 hy57 F52) ?_
      rintro _ w58 ⟨rfl, hc59⟩
      replace F40 := F40.chg hc59 Dj.nil
      replace F52 := F52.chg hc59 Dj.nil
      replace hB := hB.inS hc59 inNil
      replace hZ := Nat.le_trans hZ hc59.size
      refine ⟨.bool (y56), rfl, ?_⟩
      refine wS_end (by rfl) ?_
      refine eX_then ?_
      refine cW_cond (t := y56) (by kernel_rfl) (fun hb60 => ?_) (fun hb60 => ?_)
      · have hm := condT hb60 hm
        refine cW_seq ?_
        refine cW_region ?_
        refine wS_pure 2 [(4, .int .i64 (x38)), (17, .int .i64 (x38))] (by kernel_rfl) ?_
        refine wS_end (by rfl) ?_
        refine eX_then ?_
        refine cW_ret ?_
        refine eX_block_ret ?_
        refine eX_then_ret ?_
        have hq : (some (Ctl.out (Sum.inr x38)) : Option (Ctl (Int) (Sum (Unit) ((Int))))) = some _ := hm
        replace hq := someE hq
        subst hq
        refine eX_outR hx46 (fun hr => ?_)
        subst hr
        refine eX_block_ret ?_
        refine eX_then_ret ?_
        refine eX_then_ret ?_
        have hq : (some x38 : Option ((Int))) = some _ := hm43
        replace hq := someE hq
        subst hq
        refine eX_ret (vs := [.int .i64 (x38)]) [.tmp 4] (by rfl) ⟨by (show lkE _ _ _ = _); kernel_rfl, trivial⟩ ?_
        exact ⟨rfl, hB⟩
      · have hm := condF hb60 hm
        refine cW_skip ?_
        refine eX_block ?_
        refine eX_then ?_
        refine cW_region ?_
        refine wS_pure 2 [(8, .int .i64 (wr (x38 + 1))), (18, .int .i64 (wr (x38 + 1)))] (by kernel_rfl) ?_
        refine wS_end (by rfl) ?_
        have hq : (some (Ctl.next (wr (x38 + 1))) : Option (Ctl (Int) (Sum (Unit) ((Int))))) = some _ := hm
        replace hq := someE hq
        subst hq
        exact eX_next hx46 (fun hst => ⟨wr (x38 + 1), rfl, Fr.of hst (by kernel_rfl), F40, hB, hZ⟩)
    · have hm := condF hb47 hm
      refine cW_exit ?_
      refine eX_then_exit ?_
      have hq : (some (Ctl.out (Sum.inl (()))) : Option (Ctl (Int) (Sum (Unit) ((Int))))) = some _ := hm
      replace hq := someE hq
      subst hq
      refine eX_outX hx46 (fun hr61 => ?_)
      replace hr61 := hr61.symm
      subst hr61
      refine eX_block_hit ?_
      exact eX_J (fun hst => ⟨rfl, Fr.of hst (by kernel_rfl), hB, hZ⟩)
  · rintro a' w35 ⟨hJ, hF36, hB, hZ⟩
    subst hJ
    refine Fr.goX hF36 (by kernel_rfl) ?_
    refine eX_then ?_
    refine cW_seq ?_
    refine cW_region ?_
    refine wS_pure 1 [(4, .int .i64 ((-1)))] (by kernel_rfl) ?_
    refine wS_end (by rfl) ?_
    refine eX_then ?_
    refine cW_ret ?_
    have hq : (some ((-1)) : Option ((Int))) = some _ := hm
    replace hq := someE hq
    subst hq
    refine eX_ret (vs := [.int .i64 ((-1))]) [.tmp 4] (by rfl) ⟨by (show lkE _ _ _ = _); kernel_rfl, trivial⟩ ?_
    exact ⟨rfl, hB⟩

set_option maxRecDepth 100000 in
/-- slices.ContainsFunc[[][]int64,[]int64] -/
theorem c_slices_ContainsFunc_int64_int64_impl_ValidWiring_1 {w0 : World} {l0 : List (List (Int))} {A0 : Option Addr} {cap0 : Nat} {fp0 : List Nat} {r : (Bool)} (hm : m_slices_ContainsFunc_int64_int64_impl_ValidWiring_1 l0 = some r) (F0 : SlR 1 encI w0 fp0 A0 l0) :
    Calls Try.prog 59 #[.slice A0 (l0).length cap0, .func (.func 60) #[] #[]] w0 fun e w' => e = .returned (.bool (r)) ∧ Chg [] w0 w' := by
  have L0 := F0.low
  have hB : Chg [] w0 w0 := Chg.refl _ _
  have hZ := Nat.le_refl w0.heap.size
  unfold m_slices_ContainsFunc_int64_int64_impl_ValidWiring_1 at hm
  refine enterE (N := 9) Try.func59 (by rfl) Try.ntmps59 (by simp) [(0, .slice A0 (l0).length cap0), (1, .func (.func 60) #[] #[])] (by rfl) (by kernel_rfl) (fun a => ?_)
  refine cW_seq ?_
  refine cW_region ?_
  refine wS_pure 1 [(4, .bool (false))] (by kernel_rfl) ?_
  refine wS_end (by rfl) ?_
  refine eX_then ?_
  refine cW_seq ?_
  refine cW_region ?_
  refine wS_pure 2 [(6, .func (.func 60) #[] #[]), (5, .slice A0 (l0).length cap0)] (by kernel_rfl) ?_
  obtain ⟨y2, hy3, hm⟩ := bindE hm
  refine wS_calls (d := 7) (f := 101) (vs := [.slice A0 (l0).length cap0, .func (.func 60) #[] #[]]) (by kernel_rfl) ent101 (c_slices_IndexFunc_int64_int64_impl_ValidWiring_1 hy3 F0) ?_
  rintro _ w4 ⟨rfl, hc5⟩
  replace F0 := F0.chg hc5 Dj.nil
  replace hB := hB.inS hc5 inNil
  replace hZ := Nat.le_trans hZ hc5.size
  refine ⟨.int .i64 (y2), rfl, ?_⟩
  refine wS_pure 2 [(4, .bool (decide (y2 ≥ 0))), (8, .bool (decide (y2 ≥ 0)))] (by kernel_rfl) ?_
  refine wS_end (by rfl) ?_
  refine eX_then ?_
  refine cW_ret ?_
  have hq : (some (decide (y2 ≥ 0)) : Option ((Bool))) = some _ := hm
  replace hq := someE hq
  subst hq
  refine eX_ret (vs := [.bool (decide (y2 ≥ 0))]) [.tmp 4] (by rfl) ⟨by (show lkE _ _ _ = _); kernel_rfl, trivial⟩ ?_
  exact ⟨rfl, hB⟩

set_option maxRecDepth 100000 in
/-- slices.IndexFunc[[]int64,int64] -/
theorem c_slices_IndexFunc_int64_int64_impl_ValidWiring_2 {w0 : World} {l0 : List (Int)} {A0 : Option Addr} {cap0 : Nat} {fp0 : List Nat} {r : (Int)} (hm : m_slices_IndexFunc_int64_int64_impl_ValidWiring_2 l0 = some r) (F0 : Sl 1 encI w0 fp0 A0 l0) :
    Calls Try.prog 102 #[.slice A0 (l0).length cap0, .func (.func 62) #[] #[]] w0 fun e w' => e = .returned (.int .i64 (r)) ∧ Chg [] w0 w' := by
  have L0 := F0.low
  have hB : Chg [] w0 w0 := Chg.refl _ _
  have hZ := Nat.le_refl w0.heap.size
  unfold m_slices_IndexFunc_int64_int64_impl_ValidWiring_2 at hm
  refine enterE (N := 19) Try.func102 (by rfl) Try.ntmps102 (by simp) [(0, .slice A0 (l0).length cap0), (1, .func (.func 62) #[] #[])] (by rfl) (by kernel_rfl) (fun a => ?_)
  refine cW_seq ?_
  refine cW_region ?_
  refine wS_pure 1 [(4, .int .i64 (0))] (by kernel_rfl) ?_
  refine wS_end (by rfl) ?_
  refine eX_then ?_
  refine cW_seq ?_
  refine cW_seq ?_
  refine cW_region ?_
  refine wS_pure 3 [(8, .int .i64 (0)), (7, .int .i64 (((l0).length : Int))), (6, .slice A0 (l0).length cap0)] (by kernel_rfl) ?_
  refine wS_end (by rfl) ?_
  refine eX_then ?_
  obtain ⟨r29, hr30, hm⟩ := bindE hm
  have hm31 := hm
  refine cW_cut (fun a' w' => Sum.inl (()) = r29 ∧ Fr 19 [] a' ∧ Chg [] w0 w' ∧ w0.heap.size ≤ w'.heap.size) ?_ ?_
  · refine cW_block ?_
    refine cW_loop _ (fun (s32 : Int) a' w' => ∃ x26 : Int, x26 = s32 ∧ Fr 19 [(0, .slice A0 (l0).length cap0), (1, .func (.func 62) #[] #[]), (7, .int .i64 (((l0).length : Int))), (8, .int .i64 (x26))] a' ∧ Sl 1 encI w' fp0 A0 l0 ∧ Chg [] w0 w' ∧ w0.heap.size ≤ w'.heap.size) hr30 (fun hst => ⟨0, rfl, Fr.of hst (by kernel_rfl), F0, hB, hZ⟩) ?_
    rintro _ c33 a' w25 ⟨x26, rfl, hF27, F28, hB, hZ⟩ hx34
    refine Fr.goOn hF27 (by kernel_rfl) ?_
    have hm := hx34
    unfold m_slices_IndexFunc_int64_int64_impl_ValidWiring_2_s1 at hm
    refine cW_seq ?_
    refine cW_region ?_
    refine wS_pure 1 [(9, .bool (decide (x26 < (((l0).length : Int)))))] (by kernel_rfl) ?_
    refine wS_end (by rfl) ?_
    refine eX_then ?_
    refine cW_seq ?_
    refine cW_cond (t := decide (x26 < (((l0).length : Int)))) (by kernel_rfl) (fun hb35 => ?_) (fun hb35 => ?_)
    · have hm := condT hb35 hm
      refine cW_skip ?_
      refine eX_then ?_
      refine cW_seq ?_
      refine cW_block ?_
      refine cW_seq ?_
      refine cW_region ?_
      refine wS_pure 2 [(5, .int .i64 (x26)), (10, .int .i64 (x26))] (by kernel_rfl) ?_
      refine wS_end (by rfl) ?_
      refine eX_then ?_
      refine cW_seq ?_
      refine cW_region ?_
      refine wS_pure 3 [(13, .int .i64 (x26)), (12, .slice A0 (l0).length cap0), (11, .func (.func 62) #[] #[])] (by kernel_rfl) ?_
      obtain ⟨x36, hx37, hm⟩ := bindE hm
      refine wS_idx (d := 14) (T := 25) (A := A0) (n := (l0).length) (cap := cap0) (kd := .i64) (m := x26) (by kernel_rfl) sl25 (F28.is hx37) ?_
      refine wS_load1 (d := 15) (T := 2) (ad := (elA A0 1 (x26) 0)) (v := .int .i64 (x36)) (by kernel_rfl) vt2 (Sl.cell F28 hx37 0 (by rfl)) ?_
      obtain ⟨y38, hy39, hm⟩ := bindE hm
      refine wS_calls (d := 16) (f := 62) (vs := [.int .i64 (x36)]) (by kernel_rfl) ent62 (c_impl_ValidWiring_2 hy39) ?_
      rintro _ w40 ⟨rfl, hc41⟩
      replace F28 := F28.chg hc41 Dj.nil
      replace hB := hB.inS hc41 inNil
      replace hZ := Nat.le_trans hZ hc41.size
      refine ⟨.bool (y38), rfl, ?_⟩
      refine wS_end (by rfl) ?_
      refine eX_then ?_
      refine cW_cond (t := y38) (by kernel_rfl) (fun hb42 => ?_) (fun hb42 => ?_)
      · have hm := condT hb42 hm
        refine cW_seq ?_
        refine cW_region ?_
        refine wS_pure 2 [(4, .int .i64 (x26)), (17, .int .i64 (x26))] (by kernel_rfl) ?_
        refine wS_end (by rfl) ?_
        refine eX_then ?_
        refine cW_ret ?_
        refine eX_block_ret ?_
        refine eX_then_ret ?_
        have hq : (some (Ctl.out (Sum.inr x26)) : Option (Ctl (Int) (Sum (Unit) ((Int))))) = some _ := hm
        replace hq := someE hq
        subst hq
        refine eX_outR hx34 (fun hr => ?_)
        subst hr
        refine eX_block_ret ?_
        refine eX_then_ret ?_
        refine eX_then_ret ?_
        have hq : (some x26 : Option ((Int))) = some _ := hm31
        replace hq := someE hq
        subst hq
        refine eX_ret (vs := [.int .i64 (x26)]) [.tmp 4] (by rfl) ⟨by (show lkE _ _ _ = _); kernel_rfl, trivial⟩ ?_
        exact ⟨rfl, hB⟩
      · have hm := condF hb42 hm
        refine cW_skip ?_
        refine eX_block ?_
        refine eX_then ?_
        refine cW_region ?_
        refine wS_pure 2 [(8, .int .i64 (wr (x26 + 1))), (18, .int .i64 (wr (x26 + 1)))] (by kernel_rfl) ?_
        refine wS_end (by rfl) ?_
        have hq : (some (Ctl.next (wr (x26 + 1))) : Option (Ctl (Int) (Sum (Unit) ((Int))))) = some _ := hm
        replace hq := someE hq
        subst hq
        exact eX_next hx34 (fun hst => ⟨wr (x26 + 1), rfl, Fr.of hst (by kernel_rfl), F28, hB, hZ⟩)
    · have hm := condF hb35 hm
      refine cW_exit ?_
      refine eX_then_exit ?_
      have hq : (some (Ctl.out (Sum.inl (()))) : Option (Ctl (Int) (Sum (Unit) ((Int))))) = some _ := hm
      replace hq := someE hq
      subst hq
      refine eX_outX hx34 (fun hr43 => ?_)
      replace hr43 := hr43.symm
      subst hr43
      refine eX_block_hit ?_
      exact eX_J (fun hst => ⟨rfl, Fr.of hst (by kernel_rfl), hB, hZ⟩)
  · rintro a' w23 ⟨hJ, hF24, hB, hZ⟩
    subst hJ
    refine Fr.goX hF24 (by kernel_rfl) ?_
    refine eX_then ?_
    refine cW_seq ?_
    refine cW_region ?_
    refine wS_pure 1 [(4, .int .i64 ((-1)))] (by kernel_rfl) ?_
    refine wS_end (by rfl) ?_
    refine eX_then ?_
    refine cW_ret ?_
    have hq : (some ((-1)) : Option ((Int))) = some _ := hm
    replace hq := someE hq
    subst hq
    refine eX_ret (vs := [.int .i64 ((-1))]) [.tmp 4] (by rfl) ⟨by (show lkE _ _ _ = _); kernel_rfl, trivial⟩ ?_
    exact ⟨rfl, hB⟩

set_option maxRecDepth 100000 in
/-- slices.ContainsFunc[[]int64,int64] -/
theorem c_slices_ContainsFunc_int64_int64_impl_ValidWiring_2 {w0 : World} {l0 : List (Int)} {A0 : Option Addr} {cap0 : Nat} {fp0 : List Nat} {r : (Bool)} (hm : m_slices_ContainsFunc_int64_int64_impl_ValidWiring_2 l0 = some r) (F0 : Sl 1 encI w0 fp0 A0 l0) :
    Calls Try.prog 61 #[.slice A0 (l0).length cap0, .func (.func 62) #[] #[]] w0 fun e w' => e = .returned (.bool (r)) ∧ Chg [] w0 w' := by
  have L0 := F0.low
  have hB : Chg [] w0 w0 := Chg.refl _ _
  have hZ := Nat.le_refl w0.heap.size
  unfold m_slices_ContainsFunc_int64_int64_impl_ValidWiring_2 at hm
  refine enterE (N := 9) Try.func61 (by rfl) Try.ntmps61 (by simp) [(0, .slice A0 (l0).length cap0), (1, .func (.func 62) #[] #[])] (by rfl) (by kernel_rfl) (fun a => ?_)
  refine cW_seq ?_
  refine cW_region ?_
  refine wS_pure 1 [(4, .bool (false))] (by kernel_rfl) ?_
  refine wS_end (by rfl) ?_
  refine eX_then ?_
  refine cW_seq ?_
  refine cW_region ?_
  refine wS_pure 2 [(6, .func (.func 62) #[] #[]), (5, .slice A0 (l0).length cap0)] (by kernel_rfl) ?_
  obtain ⟨y2, hy3, hm⟩ := bindE hm
  refine wS_calls (d := 7) (f := 102) (vs := [.slice A0 (l0).length cap0, .func (.func 62) #[] #[]]) (by kernel_rfl) ent102 (c_slices_IndexFunc_int64_int64_impl_ValidWiring_2 hy3 F0) ?_
  rintro _ w4 ⟨rfl, hc5⟩
  replace F0 := F0.chg hc5 Dj.nil
  replace hB := hB.inS hc5 inNil
  replace hZ := Nat.le_trans hZ hc5.size
  refine ⟨.int .i64 (y2), rfl, ?_⟩
  refine wS_pure 2 [(4, .bool (decide (y2 ≥ 0))), (8, .bool (decide (y2 ≥ 0)))] (by kernel_rfl) ?_
  refine wS_end (by rfl) ?_
  refine eX_then ?_
  refine cW_ret ?_
  have hq : (some (decide (y2 ≥ 0)) : Option ((Bool))) = some _ := hm
  replace hq := someE hq
  subst hq
  refine eX_ret (vs := [.bool (decide (y2 ≥ 0))]) [.tmp 4] (by rfl) ⟨by (show lkE _ _ _ = _); kernel_rfl, trivial⟩ ?_
  exact ⟨rfl, hB⟩

set_option maxRecDepth 100000 in
/-- impl.ValidWiring -/
theorem c_impl_ValidWiring {w0 : World} {p0_0 : Int} {l0_1 : List (List (Int))} {A0_1 : Option Addr} {cap0_1 : Nat} {fp0_1 : List Nat} {l0_2 : List (List (Int))} {A0_2 : Option Addr} {cap0_2 : Nat} {fp0_2 : List Nat} {l0_3 : List (Int)} {A0_3 : Option Addr} {cap0_3 : Nat} {fp0_3 : List Nat} {r : (Bool)} (hm : m_impl_ValidWiring p0_0 l0_1 l0_2 l0_3 = some r) (F0_1 : SlR 1 encI w0 fp0_1 A0_1 l0_1) (F0_2 : SlR 1 encI w0 fp0_2 A0_2 l0_2) (F0_3 : Sl 1 encI w0 fp0_3 A0_3 l0_3) :
    Calls Try.prog 16 #[.agg #[.int .i64 (p0_0), .slice A0_1 (l0_1).length cap0_1, .slice A0_2 (l0_2).length cap0_2, .slice A0_3 (l0_3).length cap0_3]] w0 fun e w' => e = .returned (.bool (r)) ∧ Chg [] w0 w' := by
  have L0_1 := F0_1.low
  have L0_2 := F0_2.low
  have L0_3 := F0_3.low
  have hB : Chg [] w0 w0 := Chg.refl _ _
  have hZ := Nat.le_refl w0.heap.size
  unfold m_impl_ValidWiring at hm
  refine enterE (N := 34) Try.func16 (by rfl) Try.ntmps16 (by simp) [(0, .agg #[.int .i64 (p0_0), .slice A0_1 (l0_1).length cap0_1, .slice A0_2 (l0_2).length cap0_2, .slice A0_3 (l0_3).length cap0_3])] (by rfl) (by kernel_rfl) (fun a => ?_)
  refine cW_seq ?_
  refine cW_region ?_
  refine wS_box (d := 1) (T := 27) (x := .agg #[.int .i64 (p0_0), .slice A0_1 (l0_1).length cap0_1, .slice A0_2 (l0_2).length cap0_2, .slice A0_3 (l0_3).length cap0_3]) (by kernel_rfl) ?_
  intro b4 w5 G6 F7 hc8
  replace F7 : Cl w5 b4 27 [.int .i64 (p0_0), .slice A0_1 (l0_1).length cap0_1, .slice A0_2 (l0_2).length cap0_2, .slice A0_3 (l0_3).length cap0_3] := F7
  replace F0_1 := F0_1.chg hc8 Dj.nil
  replace F0_2 := F0_2.chg hc8 Dj.nil
  replace F0_3 := F0_3.chg hc8 Dj.nil
  replace hB := hB.inS hc8 inNil
  replace G6 := Nat.le_trans hZ G6
  replace hZ := Nat.le_trans hZ hc8.size
  refine wS_pure 1 [(2, .bool (false))] (by kernel_rfl) ?_
  refine wS_end (by rfl) ?_
  refine eX_then ?_
  refine cW_seq ?_
  refine cW_seq ?_
  refine cW_region ?_
  refine wS_pure 1 [(3, .pointer (some ⟨b4, 0, none⟩))] (by kernel_rfl) ?_
  refine wS_load1 (d := 4) (T := 2) (ad := ⟨b4, 0, none⟩) (v := .int .i64 (p0_0)) (by kernel_rfl) vt2 ((F7).cell 0) ?_
  obtain ⟨y10, hy11, hm⟩ := bindE hm
  refine wS_calls (d := 5) (f := 57) (vs := [.int .i64 (p0_0), .int .i64 (0), .int .i64 (14)]) (by kernel_rfl) ent57 (c_impl_in hy11) ?_
  rintro _ w12 ⟨rfl, hc13⟩
  replace F0_1 := F0_1.chg hc13 Dj.nil
  replace F0_2 := F0_2.chg hc13 Dj.nil
  replace F0_3 := F0_3.chg hc13 Dj.nil
  replace F7 := F7.chg hc13 notNil
  replace hB := hB.inS hc13 inNil
  replace hZ := Nat.le_trans hZ hc13.size
  refine ⟨.bool (y10), rfl, ?_⟩
  refine wS_pure 2 [(7, .bool (!y10)), (6, .bool (!y10))] (by kernel_rfl) ?_
  refine wS_bool (!y10) (fun hb14 => ?_) (fun hb14 => ?_)
  · have hm := condT hb14 hm
    rewrite [hb14]
    refine wS_pure 19 [(26, .bool (true)), (25, undef), (24, undef), (23, undef), (22, undef), (21, .bool (true)), (20, .bool (true)), (19, undef), (18, undef), (17, undef), (16, undef), (15, .bool (true)), (14, .bool (true)), (13, undef), (12, undef), (11, undef), (10, undef), (9, undef), (8, undef)] (by kernel_rfl) ?_
    refine wS_end (by rfl) ?_
    refine eX_then ?_
    refine cW_prune [(1, .pointer (some ⟨b4, 0, none⟩)), (26, .bool (true))] (by kernel_rfl) (by kernel_rfl) (fun a15 => ?_)
    refine cW_cond_t (by kernel_rfl) ?_
    refine cW_seq ?_
    refine cW_region ?_
    refine wS_pure 1 [(2, .bool (false))] (by kernel_rfl) ?_
    refine wS_end (by rfl) ?_
    refine eX_then ?_
    refine cW_ret ?_
    refine eX_then_ret ?_
    have hq : (some false : Option ((Bool))) = some _ := hm
    replace hq := someE hq
    subst hq
    refine eX_ret (vs := [.bool (false)]) [.tmp 2] (by rfl) ⟨by (show lkE _ _ _ = _); kernel_rfl, trivial⟩ ?_
    exact ⟨rfl, hB⟩
  · have hm := condF hb14 hm
    rewrite [hb14]
    refine wS_pure 1 [(8, .pointer (some ⟨b4, 3, none⟩))] (by kernel_rfl) ?_
    refine wS_load1 (d := 9) (T := 25) (ad := ⟨b4, 3, none⟩) (v := .slice A0_3 (l0_3).length cap0_3) (by kernel_rfl) vt25 ((F7).cell 3) ?_
    refine wS_pure 2 [(11, .pointer (some ⟨b4, 0, none⟩)), (10, .int .i64 (((l0_3).length : Int)))] (by kernel_rfl) ?_
    refine wS_load1 (d := 12) (T := 2) (ad := ⟨b4, 0, none⟩) (v := .int .i64 (p0_0)) (by kernel_rfl) vt2 ((F7).cell 0) ?_
    refine wS_pure 3 [(15, .bool ((((l0_3).length : Int)) != p0_0)), (14, .bool ((((l0_3).length : Int)) != p0_0)), (13, .bool ((((l0_3).length : Int)) != p0_0))] (by kernel_rfl) ?_
    refine wS_bool ((((l0_3).length : Int)) != p0_0) (fun hb16 => ?_) (fun hb16 => ?_)
    · have hm := condT hb16 hm
      rewrite [hb16]
      refine wS_pure 11 [(26, .bool (true)), (25, undef), (24, undef), (23, undef), (22, undef), (21, .bool (true)), (20, .bool (true)), (19, undef), (18, undef), (17, undef), (16, undef)] (by kernel_rfl) ?_
      refine wS_end (by rfl) ?_
      refine eX_then ?_
      refine cW_prune [(1, .pointer (some ⟨b4, 0, none⟩)), (26, .bool (true))] (by kernel_rfl) (by kernel_rfl) (fun a17 => ?_)
      refine cW_cond_t (by kernel_rfl) ?_
      refine cW_seq ?_
      refine cW_region ?_
      refine wS_pure 1 [(2, .bool (false))] (by kernel_rfl) ?_
      refine wS_end (by rfl) ?_
      refine eX_then ?_
      refine cW_ret ?_
      refine eX_then_ret ?_
      have hq : (some false : Option ((Bool))) = some _ := hm
      replace hq := someE hq
      subst hq
      refine eX_ret (vs := [.bool (false)]) [.tmp 2] (by rfl) ⟨by (show lkE _ _ _ = _); kernel_rfl, trivial⟩ ?_
      exact ⟨rfl, hB⟩
    · have hm := condF hb16 hm
      rewrite [hb16]
      refine wS_pure 1 [(16, .pointer (some ⟨b4, 1, none⟩))] (by kernel_rfl) ?_
      refine wS_load1 (d := 17) (T := 24) (ad := ⟨b4, 1, none⟩) (v := .slice A0_1 (l0_1).length cap0_1) (by kernel_rfl) vt24 ((F7).cell 1) ?_
      obtain ⟨y18, hy19, hm⟩ := bindE hm
      refine wS_calls (d := 18) (f := 58) (vs := [.pointer (some ⟨b4, 0, none⟩), .slice A0_1 (l0_1).length cap0_1, .int .i64 (2)]) (by kernel_rfl) ent58 (c_impl_Wiring_pairsOk_bimplWiring hy19 F0_1 F0_2 F0_3 F7 F0_1) ?_
      rintro _ w20 ⟨rfl, hc21⟩
      replace F0_1 := F0_1.chg hc21 Dj.nil
      replace F0_2 := F0_2.chg hc21 Dj.nil
      replace F0_3 := F0_3.chg hc21 Dj.nil
      replace F7 := F7.chg hc21 notNil
      replace hB := hB.inS hc21 inNil
      replace hZ := Nat.le_trans hZ hc21.size
      refine ⟨.bool (y18), rfl, ?_⟩
      refine wS_pure 3 [(21, .bool (!y18)), (20, .bool (!y18)), (19, .bool (!y18))] (by kernel_rfl) ?_
      refine wS_bool (!y18) (fun hb22 => ?_) (fun hb22 => ?_)
      · have hm := condT hb22 hm
        rewrite [hb22]
        refine wS_pure 5 [(26, .bool (true)), (25, undef), (24, undef), (23, undef), (22, undef)] (by kernel_rfl) ?_
        refine wS_end (by rfl) ?_
        refine eX_then ?_
        refine cW_prune [(1, .pointer (some ⟨b4, 0, none⟩)), (26, .bool (true))] (by kernel_rfl) (by kernel_rfl) (fun a23 => ?_)
        refine cW_cond_t (by kernel_rfl) ?_
        refine cW_seq ?_
        refine cW_region ?_
        refine wS_pure 1 [(2, .bool (false))] (by kernel_rfl) ?_
        refine wS_end (by rfl) ?_
        refine eX_then ?_
        refine cW_ret ?_
        refine eX_then_ret ?_
        have hq : (some false : Option ((Bool))) = some _ := hm
        replace hq := someE hq
        subst hq
        refine eX_ret (vs := [.bool (false)]) [.tmp 2] (by rfl) ⟨by (show lkE _ _ _ = _); kernel_rfl, trivial⟩ ?_
        exact ⟨rfl, hB⟩
      · have hm := condF hb22 hm
        rewrite [hb22]
        refine wS_pure 1 [(22, .pointer (some ⟨b4, 2, none⟩))] (by kernel_rfl) ?_
        refine wS_load1 (d := 23) (T := 24) (ad := ⟨b4, 2, none⟩) (v := .slice A0_2 (l0_2).length cap0_2) (by kernel_rfl) vt24 ((F7).cell 2) ?_
        obtain ⟨y24, hy25, hm⟩ := bindE hm
        refine wS_calls (d := 24) (f := 58) (vs := [.pointer (some ⟨b4, 0, none⟩), .slice A0_2 (l0_2).length cap0_2, .int .i64 (3)]) (by kernel_rfl) ent58 (c_impl_Wiring_pairsOk_bimplWiring hy25 F0_1 F0_2 F0_3 F7 F0_2) ?_
        rintro _ w26 ⟨rfl, hc27⟩
        replace F0_1 := F0_1.chg hc27 Dj.nil
        replace F0_2 := F0_2.chg hc27 Dj.nil
        replace F0_3 := F0_3.chg hc27 Dj.nil
        replace F7 := F7.chg hc27 notNil
        replace hB := hB.inS hc27 inNil
        replace hZ := Nat.le_trans hZ hc27.size
        refine ⟨.bool (y24), rfl, ?_⟩
        refine wS_pure 2 [(26, .bool (!y24)), (25, .bool (!y24))] (by kernel_rfl) ?_
        refine wS_end (by rfl) ?_
        refine eX_then ?_
        refine cW_prune [(1, .pointer (some ⟨b4, 0, none⟩)), (26, .bool (!y24))] (by kernel_rfl) (by kernel_rfl) (fun a28 => ?_)
        refine cW_cond (t := !y24) (by kernel_rfl) (fun hb29 => ?_) (fun hb29 => ?_)
        · have hm := condT hb29 hm
          refine cW_seq ?_
          refine cW_region ?_
          refine wS_pure 1 [(2, .bool (false))] (by kernel_rfl) ?_
          refine wS_end (by rfl) ?_
          refine eX_then ?_
          refine cW_ret ?_
          refine eX_then_ret ?_
          have hq : (some false : Option ((Bool))) = some _ := hm
          replace hq := someE hq
          subst hq
          refine eX_ret (vs := [.bool (false)]) [.tmp 2] (by rfl) ⟨by (show lkE _ _ _ = _); kernel_rfl, trivial⟩ ?_
          exact ⟨rfl, hB⟩
        · have hm := condF hb29 hm
          refine cW_skip ?_
          refine eX_then ?_
          refine cW_seq ?_
          refine cW_seq ?_
          refine cW_region ?_
          refine wS_pure 1 [(27, .pointer (some ⟨b4, 2, none⟩))] (by kernel_rfl) ?_
          refine wS_load1 (d := 28) (T := 24) (ad := ⟨b4, 2, none⟩) (v := .slice A0_2 (l0_2).length cap0_2) (by kernel_rfl) vt24 ((F7).cell 2) ?_
          obtain ⟨y30, hy31, hm⟩ := bindE hm
          refine wS_calls (d := 29) (f := 59) (vs := [.slice A0_2 (l0_2).length cap0_2, .func (.func 60) #[] #[]]) (by kernel_rfl) ent59 (c_slices_ContainsFunc_int64_int64_impl_ValidWiring_1 hy31 F0_2) ?_
          rintro _ w32 ⟨rfl, hc33⟩
          replace F0_1 := F0_1.chg hc33 Dj.nil
          replace F0_2 := F0_2.chg hc33 Dj.nil
          replace F0_3 := F0_3.chg hc33 Dj.nil
          replace F7 := F7.chg hc33 notNil
          replace hB := hB.inS hc33 inNil
          replace hZ := Nat.le_trans hZ hc33.size
          refine ⟨.bool (y30), rfl, ?_⟩
          refine wS_end (by rfl) ?_
          refine eX_then ?_
          refine cW_cond (t := y30) (by kernel_rfl) (fun hb34 => ?_) (fun hb34 => ?_)
          · have hm := condT hb34 hm
            refine cW_seq ?_
            refine cW_region ?_
            refine wS_pure 1 [(2, .bool (false))] (by kernel_rfl) ?_
            refine wS_end (by rfl) ?_
            refine eX_then ?_
            refine cW_ret ?_
            refine eX_then_ret ?_
            have hq : (some false : Option ((Bool))) = some _ := hm
            replace hq := someE hq
            subst hq
            refine eX_ret (vs := [.bool (false)]) [.tmp 2] (by rfl) ⟨by (show lkE _ _ _ = _); kernel_rfl, trivial⟩ ?_
            exact ⟨rfl, hB⟩
          · have hm := condF hb34 hm
            refine cW_skip ?_
            refine eX_then ?_
            refine cW_seq ?_
            refine cW_region ?_
            refine wS_pure 1 [(30, .pointer (some ⟨b4, 3, none⟩))] (by kernel_rfl) ?_
            refine wS_load1 (d := 31) (T := 25) (ad := ⟨b4, 3, none⟩) (v := .slice A0_3 (l0_3).length cap0_3) (by kernel_rfl) vt25 ((F7).cell 3) ?_
            obtain ⟨y35, hy36, hm⟩ := bindE hm
            refine wS_calls (d := 32) (f := 61) (vs := [.slice A0_3 (l0_3).length cap0_3, .func (.func 62) #[] #[]]) (by kernel_rfl) ent61 (c_slices_ContainsFunc_int64_int64_impl_ValidWiring_2 hy36 F0_3) ?_
            rintro _ w37 ⟨rfl, hc38⟩
            replace F0_1 := F0_1.chg hc38 Dj.nil
            replace F0_2 := F0_2.chg hc38 Dj.nil
            replace F0_3 := F0_3.chg hc38 Dj.nil
            replace F7 := F7.chg hc38 notNil
            replace hB := hB.inS hc38 inNil
            replace hZ := Nat.le_trans hZ hc38.size
            refine ⟨.bool (y35), rfl, ?_⟩
            refine wS_pure 2 [(2, .bool (!y35)), (33, .bool (!y35))] (by kernel_rfl) ?_
            refine wS_end (by rfl) ?_
            refine eX_then ?_
            refine cW_ret ?_
            have hq : (some (!y35) : Option ((Bool))) = some _ := hm
            replace hq := someE hq
            subst hq
            refine eX_ret (vs := [.bool (!y35)]) [.tmp 2] (by rfl) ⟨by (show lkE _ _ _ = _); kernel_rfl, trivial⟩ ?_
            exact ⟨rfl, hB⟩

set_option maxRecDepth 100000 in
/-- impl.Wiring).crossed -/
theorem c_impl_Wiring_crossed_bimplWiring {w0 : World} {q0_0 : Int} {l0_1 : List (List (Int))} {A0_1 : Option Addr} {cap0_1 : Nat} {fp0_1 : List Nat} {l0_2 : List (List (Int))} {A0_2 : Option Addr} {cap0_2 : Nat} {fp0_2 : List Nat} {l0_3 : List (Int)} {A0_3 : Option Addr} {cap0_3 : Nat} {fp0_3 : List Nat} {b0 : Nat} {r : (List (List (Int)))} (hm : m_impl_Wiring_crossed_bimplWiring q0_0 l0_1 l0_2 l0_3 = some r) (F0_1 : SlR 1 encI w0 fp0_1 A0_1 l0_1) (F0_2 : SlR 1 encI w0 fp0_2 A0_2 l0_2) (F0_3 : Sl 1 encI w0 fp0_3 A0_3 l0_3) (F0 : Cl w0 b0 27 [.int .i64 (q0_0), .slice A0_1 (l0_1).length cap0_1, .slice A0_2 (l0_2).length cap0_2, .slice A0_3 (l0_3).length cap0_3]) :
    Calls Try.prog 55 #[.pointer (some ⟨b0, 0, none⟩)] w0 fun e w' => ∃ A100 cap100 fp100 fr100, e = .returned (.slice A100 (r).length cap100) ∧ OwR 1 encI 75 3 w' fp100 fr100 A100 cap100 r ∧ (∀ x ∈ fp100 ++ fr100, w0.heap.size ≤ x) ∧ Chg [] w0 w' := by
  have L0_1 := F0_1.low
  have L0_2 := F0_2.low
  have L0_3 := F0_3.low
  have L0 := lt1 F0.lt
  have hB : Chg [] w0 w0 := Chg.refl _ _
  have hZ := Nat.le_refl w0.heap.size
  unfold m_impl_Wiring_crossed_bimplWiring at hm
  refine enterE (N := 65) Try.func55 (by rfl) Try.ntmps55 (by simp) [(0, .pointer (some ⟨b0, 0, none⟩))] (by rfl) (by kernel_rfl) (fun a => ?_)
  refine cW_seq ?_
  refine cW_region ?_
  refine wS_pure 1 [(2, .slice none 0 0)] (by kernel_rfl) ?_
  refine wS_end (by rfl) ?_
  refine eX_then ?_
  refine cW_seq ?_
  refine cW_region ?_
  refine wS_pure 3 [(10, .pointer (some ⟨b0, 0, none⟩)), (9, .pointer (some ⟨b0, 0, none⟩)), (8, .pointer (some ⟨b0, 0, none⟩))] (by kernel_rfl) ?_
  refine wS_load1 (d := 11) (T := 2) (ad := ⟨b0, 0, none⟩) (v := .int .i64 (q0_0)) (by kernel_rfl) vt2 ((F0).cell 0) ?_
  obtain ⟨_, hk5, hm⟩ := bindE hm
  replace hk5 := mkE hk5
  refine wS_makeR (T2 := 3) (k := 1) (enc := encI) (d := 12) (t := 77) (T := 75) (k1 := .i64) (k2 := .i64) (m := q0_0) (by kernel_rfl) el77 hk5.1 hk5.2 ?_
  intro b6 w7 G8 F9 hc10
  replace F0_1 := F0_1.chg hc10 Dj.nil
  replace F0_2 := F0_2.chg hc10 Dj.nil
  replace F0_3 := F0_3.chg hc10 Dj.nil
  replace F0 := F0.chg hc10 notNil
  replace hB := hB.inS hc10 inNil
  replace G8 := Nat.le_trans hZ G8
  replace G8 := low1 G8
  replace hZ := Nat.le_trans hZ hc10.size
  replace G8 := lowApp G8 lowNil
  refine wS_pure 1 [(3, .slice (some ⟨b6, 0, none⟩) (List.replicate (Int.toNat q0_0) ([] : List (Int))).length (Int.toNat q0_0))] (by kernel_rfl) ?_
  refine wS_end (by rfl) ?_
  refine eX_then ?_
  refine cW_seq ?_
  refine cW_seq ?_
  refine cW_region ?_
  refine wS_pure 3 [(15, .pointer (some ⟨b0, 1, none⟩)), (14, .pointer (some ⟨b0, 0, none⟩)), (13, .pointer (some ⟨b0, 0, none⟩))] (by kernel_rfl) ?_
  refine wS_load1 (d := 16) (T := 24) (ad := ⟨b0, 1, none⟩) (v := .slice A0_1 (l0_1).length cap0_1) (by kernel_rfl) vt24 ((F0).cell 1) ?_
  refine wS_pure 2 [(18, .int .i64 (0)), (17, .int .i64 (((l0_1).length : Int)))] (by kernel_rfl) ?_
  refine wS_end (by rfl) ?_
  refine eX_then ?_
  obtain ⟨r415, hr416, hm⟩ := bindE hm
  have hm417 := hm
  refine cW_cut (fun a' w' => ∃ l394 : List (List (Int)), ∃ A395 : Option Addr, ∃ cap396 : Nat, ∃ fp397 : List Nat, ∃ fr399 : List Nat, l394 = r415 ∧ Fr 65 [(3, .slice A395 (l394).length cap396)] a' ∧ OwR 1 encI 75 3 w' fp397 fr399 A395 cap396 l394 ∧ (∀ x ∈ (fp397 ++ fr399), w0.heap.size ≤ x) ∧ Chg [] w0 w' ∧ w0.heap.size ≤ w'.heap.size) ?_ ?_
  · refine cW_block ?_
    refine cW_loop _ (fun (s418 : (List (List (Int))) × Int) a' w' => ∃ l404 : List (List (Int)), ∃ A405 : Option Addr, ∃ cap406 : Nat, ∃ fp407 : List Nat, ∃ fr409 : List Nat, ∃ x410 : Int, (l404, x410) = s418 ∧ Fr 65 [(3, .slice A405 (l404).length cap406), (16, .slice A0_1 (l0_1).length cap0_1), (17, .int .i64 (((l0_1).length : Int))), (18, .int .i64 (x410))] a' ∧ SlR 1 encI w' fp0_1 A0_1 l0_1 ∧ OwR 1 encI 75 3 w' fp407 fr409 A405 cap406 l404 ∧ (∀ x ∈ (fp407 ++ fr409), w0.heap.size ≤ x) ∧ Chg [] w0 w' ∧ w0.heap.size ≤ w'.heap.size) hr416 (fun hst => ⟨List.replicate (Int.toNat q0_0) ([] : List (Int)), (some ⟨b6, 0, none⟩), (Int.toNat q0_0), [b6], [], 0, rfl, Fr.of hst (by kernel_rfl), F0_1, F9, G8, hB, hZ⟩) ?_
    rintro _ c419 a' w403 ⟨l404, A405, cap406, fp407, fr409, x410, rfl, hF411, F412, F413, G414, hB, hZ⟩ hx420
    refine Fr.goOn hF411 (by kernel_rfl) ?_
    have hm := hx420
    unfold m_impl_Wiring_crossed_bimplWiring_s1 at hm
    refine cW_seq ?_
    refine cW_region ?_
    refine wS_pure 1 [(19, .bool (decide (x410 < (((l0_1).length : Int)))))] (by kernel_rfl) ?_
    refine wS_end (by rfl) ?_
    refine eX_then ?_
    refine cW_seq ?_
    refine cW_cond (t := decide (x410 < (((l0_1).length : Int)))) (by kernel_rfl) (fun hb421 => ?_) (fun hb421 => ?_)
    · have hm := condT hb421 hm
      refine cW_skip ?_
      refine eX_then ?_
      refine cW_seq ?_
      refine cW_block ?_
      refine cW_seq ?_
      refine cW_region ?_
      obtain ⟨x422, hx423, hm⟩ := bindE hm
      refine wS_idx (d := 20) (T := 24) (A := A0_1) (n := (l0_1).length) (cap := cap0_1) (kd := .i64) (m := x410) (by kernel_rfl) sl24 (F412.is hx423) ?_
      obtain ⟨A424, cap425, hc427, F426, K428⟩ := SlR.row F412 hx423
      refine wS_load1 (d := 21) (T := 25) (ad := (elA A0_1 1 (x410) 0)) (v := .slice A424 (x422).length cap425) (by kernel_rfl) vt25 hc427 ?_
      refine wS_pure 1 [(5, .slice A424 (x422).length cap425)] (by kernel_rfl) ?_
      refine wS_end (by rfl) ?_
      refine eX_then ?_
      refine cW_seq ?_
      refine cW_drawnTail fr409 15 (by kernel_rfl) (by kernel_rfl) (fun w475 hc476 => ?_)
      replace F412 := F412.chg hc476 Dj.nil
      replace F413 := F413.chg hc476 Dj.nil
      replace F426 := F426.chg hc476 Dj.nil
      replace hB := hB.inS hc476 inNil
      replace hZ := Nat.le_trans hZ hc476.size
      have hS := Chg.refl fr409 w475
      have Z477 := F412
      have Z478 := F413
      have Z479 := F426
      refine wH_take [0, 1] [1, 0] [(23, .slice A424 (x422).length cap425), (22, .slice A405 (l404).length cap406)] (by kernel_rfl) (qT (qT (qB (qT (qL (qB (qT (qT qZ)))))))) (by kernel_rfl) ?_
      obtain ⟨x480, hx481, hm⟩ := bindE hm
      refine wH_idx (i := 2) (d := 24) (T := 25) (A := A424) (n := (x422).length) (cap := cap425) (kd := .i64) (m := 0) (by kernel_rfl) (qT (qT (qB (qT (qL (qB (qT (qT qZ)))))))) (by kernel_rfl) (by kernel_rfl) sl25 (F426.is hx481) ?_
      refine wH_load1 (i := 3) (d := 25) (T := 2) (ad := (elA A424 1 (0) 0)) (v := .int .i64 (x480)) (by kernel_rfl) (qT (qT (qB (qT (qL (qB (qT (qT qZ)))))))) (by kernel_rfl) (by kernel_rfl) vt2 (fun W hW => Sl.cell (Z479.chg hW (Dj.inr (Dj.of L0_1 G414))) hx481 0 (by rfl)) ?_
      refine wH_take [4, 5] [5, 4, 3, 2, 1, 0] [(27, .slice A424 (x422).length cap425), (26, .slice A405 (l404).length cap406)] (by kernel_rfl) (qT (qT (qB (qT (qL (qB (qT (qT qZ)))))))) (by kernel_rfl) ?_
      refine wH_idx (i := 6) (d := 28) (T := 25) (A := A424) (n := (x422).length) (cap := cap425) (kd := .i64) (m := 0) (by kernel_rfl) (qT (qT (qB (qT (qL (qB (qT (qT qZ)))))))) (by kernel_rfl) (by kernel_rfl) sl25 (F426.is hx481) ?_
      refine wH_load1 (i := 7) (d := 29) (T := 2) (ad := (elA A424 1 (0) 0)) (v := .int .i64 (x480)) (by kernel_rfl) (qT (qT (qB (qT (qL (qB (qT (qT qZ)))))))) (by kernel_rfl) (by kernel_rfl) vt2 (fun W hW => Sl.cell (Z479.chg hW (Dj.inr (Dj.of L0_1 G414))) hx481 0 (by rfl)) ?_
      obtain ⟨x482, hx483, hm⟩ := bindE hm
      refine wH_idx (i := 8) (d := 30) (T := 77) (A := A405) (n := (l404).length) (cap := cap406) (kd := .i64) (m := x480) (by kernel_rfl) (qT (qT (qB (qT (qL (qB (qT (qT qZ)))))))) (by kernel_rfl) (by kernel_rfl) sl77 ((F413.slr encI_ok).is hx483) ?_
      obtain ⟨A484, cap485, hc487, F486, K488⟩ := OwR.rowS Z478 encI_ok hx483
      have G490 := low_inr G414
      have Dm491 := (F413.dj).symm
      refine wH_load1 (i := 9) (d := 31) (T := 75) (ad := (elA A405 1 (x480) 0)) (v := .slice A484 (x482).length cap485) (by kernel_rfl) (qT (qT (qB (qT (qL (qB (qT (qT qZ)))))))) (by kernel_rfl) (by kernel_rfl) vt75 (fun W hW => hc487 W hW) ?_
      refine wH_take [10] [10, 9, 8, 7, 6, 5, 4, 3, 2, 1, 0] [(32, .slice A424 (x422).length cap425)] (by kernel_rfl) (qT (qT (qB (qT (qL (qB (qT (qT qZ)))))))) (by kernel_rfl) ?_
      obtain ⟨x492, hx493, hm⟩ := bindE hm
      refine wH_idx (i := 11) (d := 33) (T := 25) (A := A424) (n := (x422).length) (cap := cap425) (kd := .i64) (m := 1) (by kernel_rfl) (qT (qT (qB (qT (qL (qB (qT (qT qZ)))))))) (by kernel_rfl) (by kernel_rfl) sl25 (F426.is hx493) ?_
      refine wH_load1 (i := 12) (d := 34) (T := 2) (ad := (elA A424 1 (1) 0)) (v := .int .i64 (x492)) (by kernel_rfl) (qT (qT (qB (qT (qL (qB (qT (qT qZ)))))))) (by kernel_rfl) (by kernel_rfl) vt2 (fun W hW => Sl.cell (Z479.chg hW (Dj.inr (Dj.of L0_1 G414))) hx493 0 (by rfl)) ?_
      refine wH_all [13] (by rfl) (by kernel_rfl) (by simp) ⟨⟨by kernel_rfl, ?_⟩, trivial⟩
      refine wS_bs (enc := encI) ([x492] : List (Int)) [.int .i64 (x492)] (d := 35) (t := 75) (T := 3) (n := 1) (ps := [(0, .int .i64 (x492))]) (by kernel_rfl) el75 encI_ok (by rfl) (by omega) (by omega) (by kernel_rfl) (by rfl) ?_
      intro b494 w495 G496 F497 hc498
      have D500 : Dj (fp407 ++ fr409) [b494] := Dj.of F413.low (low1 G496)
      have D501 : Dj fr409 [b494] := Dj.of F486.low (low1 G496)
      replace F412 := F412.chg hc498 Dj.nil
      replace F413 := F413.chg hc498 Dj.nil
      replace F426 := F426.chg hc498 Dj.nil
      replace F486 := F486.chg hc498 Dj.nil
      replace hB := hB.inS hc498 inNil
      have hSz := hS
      replace hS := hS.inS hc498 inNil
      have Gz502 := low1 (Nat.le_trans hSz.size G496)
      replace G496 := Nat.le_trans hZ G496
      replace G496 := low1 G496
      replace hZ := Nat.le_trans hZ hc498.size
      refine wS_end (by kernel_rfl) ?_
      refine eX_KH hS ?_
      refine wH_all [14] (by rfl) (by kernel_rfl) (by simp) ⟨⟨by kernel_rfl, ?_⟩, trivial⟩
      obtain ⟨_, hk503, hm⟩ := bindE hm
      replace hk503 := apE hk503
      refine wS_appH (k := 1) (enc := encI) (ll := l404) (l := (x482 : List (Int))) (l2 := (([x492] : List (Int)) : List (Int))) (d := 36) (t := 75) (T2 := 3) (U := 75) (m := x480) (A := A405) (B := A484) (A2 := (some ⟨b494, 0, none⟩)) (cap := cap406) (c := cap485) (cap2 := 1) (by kernel_rfl) el75 encI_ok F413 hx483 (hc487 _ hS) (F497.sl encI_ok) hk503 ?_
      intro w504 fp505 A506 cap507 F508 hc509 hp510
      have D511 : Dj [b494] (fp407 ++ (fr409 ++ fp505)) := Dj.app (Dj.inl (D500).symm) (Dj.app (Dj.inr (D500).symm) (Dj.ap (Dj.inr (D500).symm) F497.low hp510))
      have G512 := lowApp (low_inl G414) (lowApp (low_inr G414) (low_ap (low_inr G414) hZ hp510))
      replace F412 := F412.chg hc509 (Dj.inr (Dj.of L0_1 G414))
      replace F426 := F426.chg hc509 (Dj.inr (Dj.of L0_1 G414))
      replace F497 := F497.chg hc509 (Dj.inr (D500).symm)
      replace hB := hB.inS hc509 (memS_inr (inLow G414))
      have hSz := hS
      replace hS := hS.trans hc509
      replace hZ := Nat.le_trans hZ hc509.size
      refine wS_end (by kernel_rfl) ?_
      refine eX_KH hS ?_
      refine wH_done (by kernel_rfl) ?_
      refine eX_tail ?_
      refine wS_idx (d := 37) (T := 77) (A := A405) (n := (l404).length) (cap := cap406) (kd := .i64) (m := x480) (by kernel_rfl) sl77 (by have h_ := F508.at; rw [List.length_set] at h_; exact h_) ?_
      refine wS_storeH (k := 1) (enc := encI) (ll := l404.set (Int.toNat x480) (x482 ++ (([x492] : List (Int))))) (T := 75) (U := 75) (T2 := 3) (cap := cap406) (c := cap507) (n := (x482 ++ (([x492] : List (Int)))).length) (A := A405) (B := A506) (m := x480) (by kernel_rfl) sz75 F508 ?_
      intro w513 F514 hc515
      replace F412 := F412.chg hc515 (Dj.inl (Dj.of L0_1 G512))
      replace F426 := F426.chg hc515 (Dj.inl (Dj.of L0_1 G512))
      replace F497 := F497.chg hc515 (Dj.inl D511)
      replace hB := hB.inS hc515 (memS_inl (inLow G512))
      replace hZ := Nat.le_trans hZ hc515.size
      rewrite [show (l404).length = (l404.set (Int.toNat x480) (x482 ++ (([x492] : List (Int))))).length from (List.length_set ..).symm]
      refine wS_end (by rfl) ?_
      refine eX_then ?_
      refine cW_prune [(3, .slice A405 (l404.set (Int.toNat x480) (x482 ++ (([x492] : List (Int))))).length cap406), (5, .slice A424 (x422).length cap425), (16, .slice A0_1 (l0_1).length cap0_1), (17, .int .i64 (((l0_1).length : Int))), (18, .int .i64 (x410))] (by kernel_rfl) (by kernel_rfl) (fun a517 => ?_)
      refine cW_drawnTail (fr409 ++ fp505) 15 (by kernel_rfl) (by kernel_rfl) (fun w562 hc563 => ?_)
      replace F412 := F412.chg hc563 Dj.nil
      replace F426 := F426.chg hc563 Dj.nil
      replace F497 := F497.chg hc563 Dj.nil
      replace F514 := F514.chg hc563 Dj.nil
      replace hB := hB.inS hc563 inNil
      replace hZ := Nat.le_trans hZ hc563.size
      have hS := Chg.refl (fr409 ++ fp505) w562
      have Z564 := F412
      have Z565 := F426
      have Z566 := F497
      have Z567 := F514
      refine wH_take [0, 1] [1, 0] [(39, .slice A424 (x422).length cap425), (38, .slice A405 (l404.set (Int.toNat x480) (x482 ++ (([x492] : List (Int))))).length cap406)] (by kernel_rfl) (qT (qB (qT (qL (qB (qT (qT qZ))))))) (by kernel_rfl) ?_
      refine wH_idx (i := 2) (d := 40) (T := 25) (A := A424) (n := (x422).length) (cap := cap425) (kd := .i64) (m := 1) (by kernel_rfl) (qT (qB (qT (qL (qB (qT (qT qZ))))))) (by kernel_rfl) (by kernel_rfl) sl25 (F426.is hx493) ?_
      refine wH_load1 (i := 3) (d := 41) (T := 2) (ad := (elA A424 1 (1) 0)) (v := .int .i64 (x492)) (by kernel_rfl) (qT (qB (qT (qL (qB (qT (qT qZ))))))) (by kernel_rfl) (by kernel_rfl) vt2 (fun W hW => Sl.cell (Z565.chg hW (Dj.inr (Dj.of L0_1 G512))) hx493 0 (by rfl)) ?_
      refine wH_take [4, 5] [5, 4, 3, 2, 1, 0] [(43, .slice A424 (x422).length cap425), (42, .slice A405 (l404.set (Int.toNat x480) (x482 ++ (([x492] : List (Int))))).length cap406)] (by kernel_rfl) (qT (qB (qT (qL (qB (qT (qT qZ))))))) (by kernel_rfl) ?_
      refine wH_idx (i := 6) (d := 44) (T := 25) (A := A424) (n := (x422).length) (cap := cap425) (kd := .i64) (m := 1) (by kernel_rfl) (qT (qB (qT (qL (qB (qT (qT qZ))))))) (by kernel_rfl) (by kernel_rfl) sl25 (F426.is hx493) ?_
      refine wH_load1 (i := 7) (d := 45) (T := 2) (ad := (elA A424 1 (1) 0)) (v := .int .i64 (x492)) (by kernel_rfl) (qT (qB (qT (qL (qB (qT (qT qZ))))))) (by kernel_rfl) (by kernel_rfl) vt2 (fun W hW => Sl.cell (Z565.chg hW (Dj.inr (Dj.of L0_1 G512))) hx493 0 (by rfl)) ?_
      obtain ⟨x568, hx569, hm⟩ := bindE hm
      refine wH_idx (i := 8) (d := 46) (T := 77) (A := A405) (n := (l404.set (Int.toNat x480) (x482 ++ (([x492] : List (Int))))).length) (cap := cap406) (kd := .i64) (m := x492) (by kernel_rfl) (qT (qB (qT (qL (qB (qT (qT qZ))))))) (by kernel_rfl) (by kernel_rfl) sl77 ((F514.slr encI_ok).is hx569) ?_
      obtain ⟨A570, cap571, hc573, F572, K574⟩ := OwR.rowS Z567 encI_ok hx569
      have G576 := low_inr G512
      have Dm577 := (F514.dj).symm
      refine wH_load1 (i := 9) (d := 47) (T := 75) (ad := (elA A405 1 (x492) 0)) (v := .slice A570 (x568).length cap571) (by kernel_rfl) (qT (qB (qT (qL (qB (qT (qT qZ))))))) (by kernel_rfl) (by kernel_rfl) vt75 (fun W hW => hc573 W hW) ?_
      refine wH_take [10] [10, 9, 8, 7, 6, 5, 4, 3, 2, 1, 0] [(48, .slice A424 (x422).length cap425)] (by kernel_rfl) (qT (qB (qT (qL (qB (qT (qT qZ))))))) (by kernel_rfl) ?_
      refine wH_idx (i := 11) (d := 49) (T := 25) (A := A424) (n := (x422).length) (cap := cap425) (kd := .i64) (m := 0) (by kernel_rfl) (qT (qB (qT (qL (qB (qT (qT qZ))))))) (by kernel_rfl) (by kernel_rfl) sl25 (F426.is hx481) ?_
      refine wH_load1 (i := 12) (d := 50) (T := 2) (ad := (elA A424 1 (0) 0)) (v := .int .i64 (x480)) (by kernel_rfl) (qT (qB (qT (qL (qB (qT (qT qZ))))))) (by kernel_rfl) (by kernel_rfl) vt2 (fun W hW => Sl.cell (Z565.chg hW (Dj.inr (Dj.of L0_1 G512))) hx481 0 (by rfl)) ?_
      refine wH_all [13] (by rfl) (by kernel_rfl) (by simp) ⟨⟨by kernel_rfl, ?_⟩, trivial⟩
      refine wS_bs (enc := encI) ([x480] : List (Int)) [.int .i64 (x480)] (d := 51) (t := 75) (T := 3) (n := 1) (ps := [(0, .int .i64 (x480))]) (by kernel_rfl) el75 encI_ok (by rfl) (by omega) (by omega) (by kernel_rfl) (by rfl) ?_
      intro b578 w579 G580 F581 hc582
      have D584 : Dj [b494] [b578] := Dj.of F497.low (low1 G580)
      have D585 : Dj (fp407 ++ (fr409 ++ fp505)) [b578] := Dj.of F514.low (low1 G580)
      have D586 : Dj (fr409 ++ fp505) [b578] := Dj.of F572.low (low1 G580)
      replace F412 := F412.chg hc582 Dj.nil
      replace F426 := F426.chg hc582 Dj.nil
      replace F497 := F497.chg hc582 Dj.nil
      replace F514 := F514.chg hc582 Dj.nil
      replace F572 := F572.chg hc582 Dj.nil
      replace hB := hB.inS hc582 inNil
      have hSz := hS
      replace hS := hS.inS hc582 inNil
      have Gz587 := low1 (Nat.le_trans hSz.size G580)
      replace G580 := Nat.le_trans hZ G580
      replace G580 := low1 G580
      replace hZ := Nat.le_trans hZ hc582.size
      refine wS_end (by kernel_rfl) ?_
      refine eX_KH hS ?_
      refine wH_all [14] (by rfl) (by kernel_rfl) (by simp) ⟨⟨by kernel_rfl, ?_⟩, trivial⟩
      obtain ⟨_, hk588, hm⟩ := bindE hm
      replace hk588 := apE hk588
      refine wS_appH (k := 1) (enc := encI) (ll := l404.set (Int.toNat x480) (x482 ++ (([x492] : List (Int))))) (l := (x568 : List (Int))) (l2 := (([x480] : List (Int)) : List (Int))) (d := 52) (t := 75) (T2 := 3) (U := 75) (m := x492) (A := A405) (B := A570) (A2 := (some ⟨b578, 0, none⟩)) (cap := cap406) (c := cap571) (cap2 := 1) (by kernel_rfl) el75 encI_ok F514 hx569 (hc573 _ hS) (F581.sl encI_ok) hk588 ?_
      intro w589 fp590 A591 cap592 F593 hc594 hp595
      have D596 : Dj [b494] (fp407 ++ ((fr409 ++ fp505) ++ fp590)) := Dj.app (Dj.inl D511) (Dj.app (Dj.inr D511) (Dj.ap (Dj.inr D511) F497.low hp595))
      have D597 : Dj [b578] (fp407 ++ ((fr409 ++ fp505) ++ fp590)) := Dj.app (Dj.inl (D585).symm) (Dj.app (Dj.inr (D585).symm) (Dj.ap (Dj.inr (D585).symm) F581.low hp595))
      have G598 := lowApp (low_inl G512) (lowApp (low_inr G512) (low_ap (low_inr G512) hZ hp595))
      replace F412 := F412.chg hc594 (Dj.inr (Dj.of L0_1 G512))
      replace F426 := F426.chg hc594 (Dj.inr (Dj.of L0_1 G512))
      replace F497 := F497.chg hc594 (Dj.inr D511)
      replace F581 := F581.chg hc594 (Dj.inr (D585).symm)
      replace hB := hB.inS hc594 (memS_inr (inLow G512))
      have hSz := hS
      replace hS := hS.trans hc594
      replace hZ := Nat.le_trans hZ hc594.size
      refine wS_end (by kernel_rfl) ?_
      refine eX_KH hS ?_
      refine wH_done (by kernel_rfl) ?_
      refine eX_tail ?_
      refine wS_idx (d := 53) (T := 77) (A := A405) (n := (l404.set (Int.toNat x480) (x482 ++ (([x492] : List (Int))))).length) (cap := cap406) (kd := .i64) (m := x492) (by kernel_rfl) sl77 (by have h_ := F593.at; rw [List.length_set] at h_; exact h_) ?_
      refine wS_storeH (k := 1) (enc := encI) (ll := (l404.set (Int.toNat x480) (x482 ++ (([x492] : List (Int))))).set (Int.toNat x492) (x568 ++ (([x480] : List (Int))))) (T := 75) (U := 75) (T2 := 3) (cap := cap406) (c := cap592) (n := (x568 ++ (([x480] : List (Int)))).length) (A := A405) (B := A591) (m := x492) (by kernel_rfl) sz75 F593 ?_
      intro w599 F600 hc601
      replace F412 := F412.chg hc601 (Dj.inl (Dj.of L0_1 G598))
      replace F426 := F426.chg hc601 (Dj.inl (Dj.of L0_1 G598))
      replace F497 := F497.chg hc601 (Dj.inl D596)
      replace F581 := F581.chg hc601 (Dj.inl D597)
      replace hB := hB.inS hc601 (memS_inl (inLow G598))
      replace hZ := Nat.le_trans hZ hc601.size
      rewrite [show (l404.set (Int.toNat x480) (x482 ++ (([x492] : List (Int))))).length = ((l404.set (Int.toNat x480) (x482 ++ (([x492] : List (Int))))).set (Int.toNat x492) (x568 ++ (([x480] : List (Int))))).length from (List.length_set ..).symm]
      refine wS_end (by rfl) ?_
      refine eX_block ?_
      refine eX_then ?_
      refine cW_region ?_
      refine wS_pure 2 [(18, .int .i64 (wr (x410 + 1))), (54, .int .i64 (wr (x410 + 1)))] (by kernel_rfl) ?_
      refine wS_end (by rfl) ?_
      have hq : (some (Ctl.next (((l404.set (Int.toNat x480) (x482 ++ (([x492] : List (Int))))).set (Int.toNat x492) (x568 ++ (([x480] : List (Int)))), wr (x410 + 1)))) : Option (Ctl ((List (List (Int))) × Int) ((List (List (Int)))))) = some _ := hm
      replace hq := someE hq
      subst hq
      exact eX_next hx420 (fun hst => ⟨(l404.set (Int.toNat x480) (x482 ++ (([x492] : List (Int))))).set (Int.toNat x492) (x568 ++ (([x480] : List (Int)))), A405, cap406, fp407, ((fr409 ++ fp505) ++ fp590), wr (x410 + 1), rfl, Fr.of hst (by kernel_rfl), F412, F600, G598, hB, hZ⟩)
    · have hm := condF hb421 hm
      refine cW_exit ?_
      refine eX_then_exit ?_
      have hq : (some (Ctl.out l404) : Option (Ctl ((List (List (Int))) × Int) ((List (List (Int)))))) = some _ := hm
      replace hq := someE hq
      subst hq
      refine eX_outX hx420 (fun hr603 => ?_)
      replace hr603 := hr603.symm
      subst hr603
      refine eX_block_hit ?_
      exact eX_J (fun hst => ⟨l404, A405, cap406, fp407, fr409, rfl, Fr.of hst (by kernel_rfl), F413, G414, hB, hZ⟩)
  · rintro a' w393 ⟨l394, A395, cap396, fp397, fr399, hJ, hF400, F401, G402, hB, hZ⟩
    subst hJ
    refine Fr.goX hF400 (by kernel_rfl) ?_
    refine eX_then ?_
    refine cW_seq ?_
    refine cW_seq ?_
    refine cW_region ?_
    refine wS_pure 3 [(57, .int .i64 (0)), (56, .int .i64 (((l394).length : Int))), (55, .slice A395 (l394).length cap396)] (by kernel_rfl) ?_
    refine wS_end (by rfl) ?_
    refine eX_then ?_
    obtain ⟨r663, hr664, hm⟩ := bindE hm
    have hm665 := hm
    refine cW_cut (fun a' w' => ∃ l655 : List (List (Int)), l655 = r663 ∧ Fr 65 [(3, .slice A395 (l655).length cap396)] a' ∧ OwR 1 encI 75 3 w' fp397 fr399 A395 cap396 l655 ∧ Chg [] w0 w' ∧ w0.heap.size ≤ w'.heap.size) ?_ ?_
    · refine cW_block ?_
      refine cW_loop _ (fun (s666 : Int × (List (List (Int)))) a' w' => ∃ x659 : Int, ∃ l660 : List (List (Int)), (x659, l660) = s666 ∧ Fr 65 [(3, .slice A395 (l660).length cap396), (55, .slice A395 (l660).length cap396), (56, .int .i64 (((l394).length : Int))), (57, .int .i64 (x659))] a' ∧ OwR 1 encI 75 3 w' fp397 fr399 A395 cap396 l660 ∧ Chg [] w0 w' ∧ w0.heap.size ≤ w'.heap.size) hr664 (fun hst => ⟨0, l394, rfl, Fr.of hst (by kernel_rfl), F401, hB, hZ⟩) ?_
      rintro _ c667 a' w658 ⟨x659, l660, rfl, hF661, F662, hB, hZ⟩ hx668
      refine Fr.goOn hF661 (by kernel_rfl) ?_
      have hm := hx668
      unfold m_impl_Wiring_crossed_bimplWiring_s2 at hm
      refine cW_seq ?_
      refine cW_region ?_
      refine wS_pure 1 [(58, .bool (decide (x659 < (((l394).length : Int)))))] (by kernel_rfl) ?_
      refine wS_end (by rfl) ?_
      refine eX_then ?_
      refine cW_seq ?_
      refine cW_cond (t := decide (x659 < (((l394).length : Int)))) (by kernel_rfl) (fun hb669 => ?_) (fun hb669 => ?_)
      · have hm := condT hb669 hm
        refine cW_skip ?_
        refine eX_then ?_
        refine cW_seq ?_
        refine cW_block ?_
        refine cW_seq ?_
        refine cW_region ?_
        obtain ⟨x670, hx671, hm⟩ := bindE hm
        refine wS_idx (d := 59) (T := 77) (A := A395) (n := (l660).length) (cap := cap396) (kd := .i64) (m := x659) (by kernel_rfl) sl77 ((F662.slr encI_ok).is hx671) ?_
        obtain ⟨A672, cap673, fp677, hc675, hsub678, F674, hcl679⟩ := OwR.lend F662 hx671
        have G681 := low_inr G402
        have Dm682 := (F662.dj).symm
        refine wS_load1 (d := 60) (T := 75) (ad := (elA A395 1 (x659) 0)) (v := .slice A672 (x670).length cap673) (by kernel_rfl) vt75 hc675 ?_
        refine wS_pure 1 [(7, .slice A672 (x670).length cap673)] (by kernel_rfl) ?_
        refine wS_end (by rfl) ?_
        refine eX_then ?_
        refine cW_region ?_
        refine wS_pure 1 [(61, .slice A672 (x670).length cap673)] (by kernel_rfl) ?_
        obtain ⟨y683, hy684, hm⟩ := bindE hm
        refine wS_calls (d := 62) (f := 95) (vs := [.slice A672 (x670).length cap673]) (by kernel_rfl) ent95 (c_slices_Sort_int_int hy684 F674) ?_
        rintro _ w685 ⟨rfl, F687, hl688, hc686⟩
        have F689 := hcl679 _ _ (hc686.more (fun x hx => by simpa using hx)) F687 hl688
        have hc690 := hc686.more (S' := (fp397 ++ fr399) ++ []) (fun x hx => List.mem_append_left _ (hsub678 x (by simpa using hx)))
        clear F662
        replace hB := hB.inS hc690 (inApp (inLow G402) inNil)
        replace hZ := Nat.le_trans hZ hc690.size
        refine ⟨.tuple #[], rfl, ?_⟩
        rewrite [(show (l660).length = (l660.set (Int.toNat x659) y683).length from (List.length_set ..).symm)]
        refine wS_end (by rfl) ?_
        refine eX_block ?_
        refine eX_then ?_
        refine cW_region ?_
        refine wS_pure 2 [(57, .int .i64 (wr (x659 + 1))), (63, .int .i64 (wr (x659 + 1)))] (by kernel_rfl) ?_
        refine wS_end (by rfl) ?_
        have hq : (some (Ctl.next ((wr (x659 + 1), l660.set (Int.toNat x659) y683))) : Option (Ctl (Int × (List (List (Int)))) ((List (List (Int)))))) = some _ := hm
        replace hq := someE hq
        subst hq
        exact eX_next hx668 (fun hst => ⟨wr (x659 + 1), l660.set (Int.toNat x659) y683, rfl, Fr.of hst (by kernel_rfl), F689, hB, hZ⟩)
      · have hm := condF hb669 hm
        refine cW_exit ?_
        refine eX_then_exit ?_
        have hq : (some (Ctl.out l660) : Option (Ctl (Int × (List (List (Int)))) ((List (List (Int)))))) = some _ := hm
        replace hq := someE hq
        subst hq
        refine eX_outX hx668 (fun hr691 => ?_)
        replace hr691 := hr691.symm
        subst hr691
        refine eX_block_hit ?_
        exact eX_J (fun hst => ⟨l660, rfl, Fr.of hst (by kernel_rfl), F662, hB, hZ⟩)
    · rintro a' w654 ⟨l655, hJ, hF656, F657, hB, hZ⟩
      subst hJ
      refine Fr.goX hF656 (by kernel_rfl) ?_
      refine eX_then ?_
      refine cW_seq ?_
      refine cW_region ?_
      refine wS_pure 2 [(2, .slice A395 (l655).length cap396), (64, .slice A395 (l655).length cap396)] (by kernel_rfl) ?_
      refine wS_end (by rfl) ?_
      refine eX_then ?_
      refine cW_ret ?_
      have hq : (some l655 : Option ((List (List (Int))))) = some _ := hm
      replace hq := someE hq
      subst hq
      refine eX_ret (vs := [.slice A395 (l655).length cap396]) [.tmp 2] (by rfl) ⟨by (show lkE _ _ _ = _); kernel_rfl, trivial⟩ ?_
      exact ⟨A395, cap396, fp397, fr399, rfl, F657, G402, hB⟩

set_option maxRecDepth 100000 in
/-- impl.graph).twice -/
theorem c_impl_graph_twice {w0 : World} {l0 : List (List (Int))} {A0 : Option Addr} {cap0 : Nat} {fp0 : List Nat} {r : (List (List (Int)))} (hm : m_impl_graph_twice l0 = some r) (F0 : SlR 1 encI w0 fp0 A0 l0) :
    Calls Try.prog 96 #[.slice A0 (l0).length cap0] w0 fun e w' => ∃ A100 cap100 fp100 fr100, e = .returned (.slice A100 (r).length cap100) ∧ OwR 1 encI 75 3 w' fp100 fr100 A100 cap100 r ∧ (∀ x ∈ fp100 ++ fr100, w0.heap.size ≤ x) ∧ Chg [] w0 w' := by
  have L0 := F0.low
  have hB : Chg [] w0 w0 := Chg.refl _ _
  have hZ := Nat.le_refl w0.heap.size
  unfold m_impl_graph_twice at hm
  refine enterE (N := 56) Try.func96 (by rfl) Try.ntmps96 (by simp) [(0, .slice A0 (l0).length cap0)] (by rfl) (by kernel_rfl) (fun a => ?_)
  refine cW_seq ?_
  refine cW_region ?_
  refine wS_pure 1 [(2, .slice none 0 0)] (by kernel_rfl) ?_
  refine wS_end (by rfl) ?_
  refine eX_then ?_
  refine cW_seq ?_
  refine cW_region ?_
  refine wS_pure 3 [(3, .int .i64 (((l0).length : Int))), (10, .int .i64 (((l0).length : Int))), (9, .slice A0 (l0).length cap0)] (by kernel_rfl) ?_
  refine wS_end (by rfl) ?_
  refine eX_then ?_
  refine cW_seq ?_
  refine cW_region ?_
  refine wS_pure 2 [(12, .int .i64 (wr (2 * (((l0).length : Int))))), (11, .int .i64 (((l0).length : Int)))] (by kernel_rfl) ?_
  obtain ⟨_, hk2, hm⟩ := bindE hm
  replace hk2 := mkE hk2
  refine wS_makeR (T2 := 3) (k := 1) (enc := encI) (d := 13) (t := 77) (T := 75) (k1 := .i64) (k2 := .i64) (m := wr (2 * (((l0).length : Int)))) (by kernel_rfl) el77 hk2.1 hk2.2 ?_
  intro b3 w4 G5 F6 hc7
  replace F0 := F0.chg hc7 Dj.nil
  replace hB := hB.inS hc7 inNil
  replace G5 := Nat.le_trans hZ G5
  replace G5 := low1 G5
  replace hZ := Nat.le_trans hZ hc7.size
  replace G5 := lowApp G5 lowNil
  refine wS_pure 1 [(4, .slice (some ⟨b3, 0, none⟩) (List.replicate (Int.toNat (wr (2 * (((l0).length : Int))))) ([] : List (Int))).length (Int.toNat (wr (2 * (((l0).length : Int))))))] (by kernel_rfl) ?_
  refine wS_end (by rfl) ?_
  refine eX_then ?_
  refine cW_seq ?_
  refine cW_seq ?_
  refine cW_region ?_
  refine wS_pure 3 [(16, .int .i64 (0)), (15, .int .i64 (((l0).length : Int))), (14, .slice A0 (l0).length cap0)] (by kernel_rfl) ?_
  refine wS_end (by rfl) ?_
  refine eX_then ?_
  obtain ⟨r595, hr596, hm⟩ := bindE hm
  have hm597 := hm
  refine cW_cut (fun a' w' => ∃ l574 : List (List (Int)), ∃ A575 : Option Addr, ∃ cap576 : Nat, ∃ fp577 : List Nat, ∃ fr579 : List Nat, l574 = r595 ∧ Fr 56 [(4, .slice A575 (l574).length cap576)] a' ∧ OwR 1 encI 75 3 w' fp577 fr579 A575 cap576 l574 ∧ (∀ x ∈ (fp577 ++ fr579), w0.heap.size ≤ x) ∧ Chg [] w0 w' ∧ w0.heap.size ≤ w'.heap.size) ?_ ?_
  · refine cW_block ?_
    refine cW_loop _ (fun (s598 : (List (List (Int))) × Int) a' w' => ∃ l584 : List (List (Int)), ∃ A585 : Option Addr, ∃ cap586 : Nat, ∃ fp587 : List Nat, ∃ fr589 : List Nat, ∃ x590 : Int, (l584, x590) = s598 ∧ Fr 56 [(3, .int .i64 (((l0).length : Int))), (4, .slice A585 (l584).length cap586), (14, .slice A0 (l0).length cap0), (15, .int .i64 (((l0).length : Int))), (16, .int .i64 (x590))] a' ∧ SlR 1 encI w' fp0 A0 l0 ∧ OwR 1 encI 75 3 w' fp587 fr589 A585 cap586 l584 ∧ (∀ x ∈ (fp587 ++ fr589), w0.heap.size ≤ x) ∧ Chg [] w0 w' ∧ w0.heap.size ≤ w'.heap.size) hr596 (fun hst => ⟨List.replicate (Int.toNat (wr (2 * (((l0).length : Int))))) ([] : List (Int)), (some ⟨b3, 0, none⟩), (Int.toNat (wr (2 * (((l0).length : Int))))), [b3], [], 0, rfl, Fr.of hst (by kernel_rfl), F0, F6, G5, hB, hZ⟩) ?_
    rintro _ c599 a' w583 ⟨l584, A585, cap586, fp587, fr589, x590, rfl, hF591, F592, F593, G594, hB, hZ⟩ hx600
    refine Fr.goOn hF591 (by kernel_rfl) ?_
    have hm := hx600
    unfold m_impl_graph_twice_s3 at hm
    refine cW_seq ?_
    refine cW_region ?_
    refine wS_pure 1 [(17, .bool (decide (x590 < (((l0).length : Int)))))] (by kernel_rfl) ?_
    refine wS_end (by rfl) ?_
    refine eX_then ?_
    refine cW_seq ?_
    refine cW_cond (t := decide (x590 < (((l0).length : Int)))) (by kernel_rfl) (fun hb601 => ?_) (fun hb601 => ?_)
    · have hm := condT hb601 hm
      refine cW_skip ?_
      refine eX_then ?_
      refine cW_seq ?_
      refine cW_block ?_
      refine cW_seq ?_
      refine cW_region ?_
      refine wS_pure 1 [(18, .int .i64 (x590))] (by kernel_rfl) ?_
      obtain ⟨x602, hx603, hm⟩ := bindE hm
      refine wS_idx (d := 19) (T := 77) (A := A0) (n := (l0).length) (cap := cap0) (kd := .i64) (m := x590) (by kernel_rfl) sl77 (F592.is hx603) ?_
      obtain ⟨A604, cap605, hc607, F606, K608⟩ := SlR.row F592 hx603
      refine wS_load1 (d := 20) (T := 75) (ad := (elA A0 1 (x590) 0)) (v := .slice A604 (x602).length cap605) (by kernel_rfl) vt75 hc607 ?_
      refine wS_pure 2 [(6, .slice A604 (x602).length cap605), (5, .int .i64 (x590))] (by kernel_rfl) ?_
      refine wS_end (by rfl) ?_
      refine eX_then ?_
      refine cW_seq ?_
      refine cW_region ?_
      refine wS_pure 3 [(23, .int .i64 (0)), (22, .int .i64 (((x602).length : Int))), (21, .slice A604 (x602).length cap605)] (by kernel_rfl) ?_
      refine wS_end (by rfl) ?_
      refine eX_then ?_
      obtain ⟨r796, hr797, hm⟩ := bindE hm
      have hm798 := hm
      refine cW_cut (fun a' w' => ∃ l773 : List (List (Int)), ∃ A774 : Option Addr, ∃ cap775 : Nat, ∃ fp776 : List Nat, ∃ fr778 : List Nat, l773 = r796 ∧ Fr 56 [(3, .int .i64 (((l0).length : Int))), (4, .slice A774 (l773).length cap775), (14, .slice A0 (l0).length cap0), (15, .int .i64 (((l0).length : Int))), (16, .int .i64 (x590))] a' ∧ SlR 1 encI w' fp0 A0 l0 ∧ OwR 1 encI 75 3 w' fp776 fr778 A774 cap775 l773 ∧ (∀ x ∈ (fp776 ++ fr778), w0.heap.size ≤ x) ∧ Chg [] w0 w' ∧ w0.heap.size ≤ w'.heap.size) ?_ ?_
      · refine cW_block ?_
        refine cW_loop _ (fun (s799 : (List (List (Int))) × Int) a' w' => ∃ l784 : List (List (Int)), ∃ A785 : Option Addr, ∃ cap786 : Nat, ∃ fp787 : List Nat, ∃ fr789 : List Nat, ∃ x790 : Int, (l784, x790) = s799 ∧ Fr 56 [(3, .int .i64 (((l0).length : Int))), (4, .slice A785 (l784).length cap786), (5, .int .i64 (x590)), (14, .slice A0 (l0).length cap0), (15, .int .i64 (((l0).length : Int))), (16, .int .i64 (x590)), (21, .slice A604 (x602).length cap605), (22, .int .i64 (((x602).length : Int))), (23, .int .i64 (x790))] a' ∧ SlR 1 encI w' fp0 A0 l0 ∧ Sl 1 encI w' fp0 A604 x602 ∧ OwR 1 encI 75 3 w' fp787 fr789 A785 cap786 l784 ∧ (∀ x ∈ (fp787 ++ fr789), w0.heap.size ≤ x) ∧ Chg [] w0 w' ∧ w0.heap.size ≤ w'.heap.size) hr797 (fun hst => ⟨l584, A585, cap586, fp587, fr589, 0, rfl, Fr.of hst (by kernel_rfl), F592, F606, F593, G594, hB, hZ⟩) ?_
        rintro _ c800 a' w783 ⟨l784, A785, cap786, fp787, fr789, x790, rfl, hF791, F792, F793, F794, G795, hB, hZ⟩ hx801
        refine Fr.goOn hF791 (by kernel_rfl) ?_
        have hm := hx801
        unfold m_impl_graph_twice_s4 at hm
        refine cW_seq ?_
        refine cW_region ?_
        refine wS_pure 1 [(24, .bool (decide (x790 < (((x602).length : Int)))))] (by kernel_rfl) ?_
        refine wS_end (by rfl) ?_
        refine eX_then ?_
        refine cW_seq ?_
        refine cW_cond (t := decide (x790 < (((x602).length : Int)))) (by kernel_rfl) (fun hb802 => ?_) (fun hb802 => ?_)
        · have hm := condT hb802 hm
          refine cW_skip ?_
          refine eX_then ?_
          refine cW_seq ?_
          refine cW_block ?_
          refine cW_seq ?_
          refine cW_region ?_
          obtain ⟨x803, hx804, hm⟩ := bindE hm
          refine wS_idx (d := 25) (T := 75) (A := A604) (n := (x602).length) (cap := cap605) (kd := .i64) (m := x790) (by kernel_rfl) sl75 (F793.is hx804) ?_
          refine wS_load1 (d := 26) (T := 3) (ad := (elA A604 1 (x790) 0)) (v := .int .i64 (x803)) (by kernel_rfl) vt3 (Sl.cell F793 hx804 0 (by rfl)) ?_
          refine wS_pure 1 [(8, .int .i64 (x803))] (by kernel_rfl) ?_
          refine wS_end (by rfl) ?_
          refine eX_then ?_
          refine cW_seq ?_
          refine cW_region ?_
          refine wS_pure 4 [(30, .int .i64 (x590)), (29, .slice A785 (l784).length cap786), (28, .int .i64 (x590)), (27, .slice A785 (l784).length cap786)] (by kernel_rfl) ?_
          obtain ⟨x805, hx806, hm⟩ := bindE hm
          refine wS_idx (d := 31) (T := 77) (A := A785) (n := (l784).length) (cap := cap786) (kd := .i64) (m := x590) (by kernel_rfl) sl77 ((F794.slr encI_ok).is hx806) ?_
          obtain ⟨A807, cap808, hc810, F809, K811⟩ := OwR.row F794 encI_ok hx806
          have G813 := low_inr G795
          have Dm814 := (F794.dj).symm
          refine wS_load1 (d := 32) (T := 75) (ad := (elA A785 1 (x590) 0)) (v := .slice A807 (x805).length cap808) (by kernel_rfl) vt75 hc810 ?_
          refine wS_pure 3 [(35, .int .i64 (wr (x803 + (((l0).length : Int))))), (34, .int .i64 (((l0).length : Int))), (33, .int .i64 (x803))] (by kernel_rfl) ?_
          refine wS_bs (enc := encI) ([wr (x803 + (((l0).length : Int)))] : List (Int)) [.int .i64 (wr (x803 + (((l0).length : Int))))] (d := 36) (t := 75) (T := 3) (n := 1) (ps := [(0, .int .i64 (wr (x803 + (((l0).length : Int)))))]) (by kernel_rfl) el75 encI_ok (by rfl) (by omega) (by omega) (by kernel_rfl) (by rfl) ?_
          intro b815 w816 G817 F818 hc819
          have D821 : Dj (fp787 ++ fr789) [b815] := Dj.of F794.low (low1 G817)
          have D822 : Dj fr789 [b815] := Dj.of F809.low (low1 G817)
          replace F792 := F792.chg hc819 Dj.nil
          replace F793 := F793.chg hc819 Dj.nil
          replace F794 := F794.chg hc819 Dj.nil
          replace F809 := F809.chg hc819 Dj.nil
          have hc823 := hc819.keep hc810
          replace hB := hB.inS hc819 inNil
          replace G817 := Nat.le_trans hZ G817
          replace G817 := low1 G817
          replace hZ := Nat.le_trans hZ hc819.size
          obtain ⟨_, hk824, hm⟩ := bindE hm
          replace hk824 := apE hk824
          refine wS_appH (k := 1) (enc := encI) (ll := l784) (l := (x805 : List (Int))) (l2 := (([wr (x803 + (((l0).length : Int)))] : List (Int)) : List (Int))) (d := 37) (t := 75) (T2 := 3) (U := 75) (m := x590) (A := A785) (B := A807) (A2 := (some ⟨b815, 0, none⟩)) (cap := cap786) (c := cap808) (cap2 := 1) (by kernel_rfl) el75 encI_ok F794 hx806 hc823 (F818.sl encI_ok) hk824 ?_
          intro w825 fp826 A827 cap828 F829 hc830 hp831
          have D832 : Dj [b815] (fp787 ++ (fr789 ++ fp826)) := Dj.app (Dj.inl (D821).symm) (Dj.app (Dj.inr (D821).symm) (Dj.ap (Dj.inr (D821).symm) F818.low hp831))
          have G833 := lowApp (low_inl G795) (lowApp (low_inr G795) (low_ap (low_inr G795) hZ hp831))
          replace F792 := F792.chg hc830 (Dj.inr (Dj.of L0 G795))
          replace F793 := F793.chg hc830 (Dj.inr (Dj.of L0 G795))
          replace F818 := F818.chg hc830 (Dj.inr (D821).symm)
          replace hB := hB.inS hc830 (memS_inr (inLow G795))
          replace hZ := Nat.le_trans hZ hc830.size
          refine wS_idx (d := 38) (T := 77) (A := A785) (n := (l784).length) (cap := cap786) (kd := .i64) (m := x590) (by kernel_rfl) sl77 (by have h_ := F829.at; rw [List.length_set] at h_; exact h_) ?_
          refine wS_storeH (k := 1) (enc := encI) (ll := l784.set (Int.toNat x590) (x805 ++ (([wr (x803 + (((l0).length : Int)))] : List (Int))))) (T := 75) (U := 75) (T2 := 3) (cap := cap786) (c := cap828) (n := (x805 ++ (([wr (x803 + (((l0).length : Int)))] : List (Int)))).length) (A := A785) (B := A827) (m := x590) (by kernel_rfl) sz75 F829 ?_
          intro w834 F835 hc836
          replace F792 := F792.chg hc836 (Dj.inl (Dj.of L0 G833))
          replace F793 := F793.chg hc836 (Dj.inl (Dj.of L0 G833))
          replace F818 := F818.chg hc836 (Dj.inl D832)
          replace hB := hB.inS hc836 (memS_inl (inLow G833))
          replace hZ := Nat.le_trans hZ hc836.size
          rewrite [show (l784).length = (l784.set (Int.toNat x590) (x805 ++ (([wr (x803 + (((l0).length : Int)))] : List (Int))))).length from (List.length_set ..).symm]
          refine wS_end (by rfl) ?_
          refine eX_then ?_
          refine cW_prune [(3, .int .i64 (((l0).length : Int))), (4, .slice A785 (l784.set (Int.toNat x590) (x805 ++ (([wr (x803 + (((l0).length : Int)))] : List (Int))))).length cap786), (5, .int .i64 (x590)), (8, .int .i64 (x803)), (14, .slice A0 (l0).length cap0), (15, .int .i64 (((l0).length : Int))), (16, .int .i64 (x590)), (21, .slice A604 (x602).length cap605), (22, .int .i64 (((x602).length : Int))), (23, .int .i64 (x790))] (by kernel_rfl) (by kernel_rfl) (fun a838 => ?_)
          refine cW_region ?_
          refine wS_pure 8 [(46, .int .i64 (wr (x590 + (((l0).length : Int))))), (45, .int .i64 (((l0).length : Int))), (44, .int .i64 (x590)), (43, .slice A785 (l784.set (Int.toNat x590) (x805 ++ (([wr (x803 + (((l0).length : Int)))] : List (Int))))).length cap786), (42, .int .i64 (wr (x590 + (((l0).length : Int))))), (41, .int .i64 (((l0).length : Int))), (40, .int .i64 (x590)), (39, .slice A785 (l784.set (Int.toNat x590) (x805 ++ (([wr (x803 + (((l0).length : Int)))] : List (Int))))).length cap786)] (by kernel_rfl) ?_
          obtain ⟨x839, hx840, hm⟩ := bindE hm
          refine wS_idx (d := 47) (T := 77) (A := A785) (n := (l784.set (Int.toNat x590) (x805 ++ (([wr (x803 + (((l0).length : Int)))] : List (Int))))).length) (cap := cap786) (kd := .i64) (m := wr (x590 + (((l0).length : Int)))) (by kernel_rfl) sl77 ((F835.slr encI_ok).is hx840) ?_
          obtain ⟨A841, cap842, hc844, F843, K845⟩ := OwR.row F835 encI_ok hx840
          have G847 := low_inr G833
          have Dm848 := (F835.dj).symm
          refine wS_load1 (d := 48) (T := 75) (ad := (elA A785 1 (wr (x590 + (((l0).length : Int)))) 0)) (v := .slice A841 (x839).length cap842) (by kernel_rfl) vt75 hc844 ?_
          refine wS_pure 1 [(49, .int .i64 (x803))] (by kernel_rfl) ?_
          refine wS_bs (enc := encI) ([x803] : List (Int)) [.int .i64 (x803)] (d := 50) (t := 75) (T := 3) (n := 1) (ps := [(0, .int .i64 (x803))]) (by kernel_rfl) el75 encI_ok (by rfl) (by omega) (by omega) (by kernel_rfl) (by rfl) ?_
          intro b849 w850 G851 F852 hc853
          have D855 : Dj [b815] [b849] := Dj.of F818.low (low1 G851)
          have D856 : Dj (fp787 ++ (fr789 ++ fp826)) [b849] := Dj.of F835.low (low1 G851)
          have D857 : Dj (fr789 ++ fp826) [b849] := Dj.of F843.low (low1 G851)
          replace F792 := F792.chg hc853 Dj.nil
          replace F793 := F793.chg hc853 Dj.nil
          replace F818 := F818.chg hc853 Dj.nil
          replace F835 := F835.chg hc853 Dj.nil
          replace F843 := F843.chg hc853 Dj.nil
          have hc858 := hc853.keep hc844
          replace hB := hB.inS hc853 inNil
          replace G851 := Nat.le_trans hZ G851
          replace G851 := low1 G851
          replace hZ := Nat.le_trans hZ hc853.size
          obtain ⟨_, hk859, hm⟩ := bindE hm
          replace hk859 := apE hk859
          refine wS_appH (k := 1) (enc := encI) (ll := l784.set (Int.toNat x590) (x805 ++ (([wr (x803 + (((l0).length : Int)))] : List (Int))))) (l := (x839 : List (Int))) (l2 := (([x803] : List (Int)) : List (Int))) (d := 51) (t := 75) (T2 := 3) (U := 75) (m := wr (x590 + (((l0).length : Int)))) (A := A785) (B := A841) (A2 := (some ⟨b849, 0, none⟩)) (cap := cap786) (c := cap842) (cap2 := 1) (by kernel_rfl) el75 encI_ok F835 hx840 hc858 (F852.sl encI_ok) hk859 ?_
          intro w860 fp861 A862 cap863 F864 hc865 hp866
          have D867 : Dj [b815] (fp787 ++ ((fr789 ++ fp826) ++ fp861)) := Dj.app (Dj.inl D832) (Dj.app (Dj.inr D832) (Dj.ap (Dj.inr D832) F818.low hp866))
          have D868 : Dj [b849] (fp787 ++ ((fr789 ++ fp826) ++ fp861)) := Dj.app (Dj.inl (D856).symm) (Dj.app (Dj.inr (D856).symm) (Dj.ap (Dj.inr (D856).symm) F852.low hp866))
          have G869 := lowApp (low_inl G833) (lowApp (low_inr G833) (low_ap (low_inr G833) hZ hp866))
          replace F792 := F792.chg hc865 (Dj.inr (Dj.of L0 G833))
          replace F793 := F793.chg hc865 (Dj.inr (Dj.of L0 G833))
          replace F818 := F818.chg hc865 (Dj.inr D832)
          replace F852 := F852.chg hc865 (Dj.inr (D856).symm)
          replace hB := hB.inS hc865 (memS_inr (inLow G833))
          replace hZ := Nat.le_trans hZ hc865.size
          refine wS_idx (d := 52) (T := 77) (A := A785) (n := (l784.set (Int.toNat x590) (x805 ++ (([wr (x803 + (((l0).length : Int)))] : List (Int))))).length) (cap := cap786) (kd := .i64) (m := wr (x590 + (((l0).length : Int)))) (by kernel_rfl) sl77 (by have h_ := F864.at; rw [List.length_set] at h_; exact h_) ?_
          refine wS_storeH (k := 1) (enc := encI) (ll := (l784.set (Int.toNat x590) (x805 ++ (([wr (x803 + (((l0).length : Int)))] : List (Int))))).set (Int.toNat (wr (x590 + (((l0).length : Int))))) (x839 ++ (([x803] : List (Int))))) (T := 75) (U := 75) (T2 := 3) (cap := cap786) (c := cap863) (n := (x839 ++ (([x803] : List (Int)))).length) (A := A785) (B := A862) (m := wr (x590 + (((l0).length : Int)))) (by kernel_rfl) sz75 F864 ?_
          intro w870 F871 hc872
          replace F792 := F792.chg hc872 (Dj.inl (Dj.of L0 G869))
          replace F793 := F793.chg hc872 (Dj.inl (Dj.of L0 G869))
          replace F818 := F818.chg hc872 (Dj.inl D867)
          replace F852 := F852.chg hc872 (Dj.inl D868)
          replace hB := hB.inS hc872 (memS_inl (inLow G869))
          replace hZ := Nat.le_trans hZ hc872.size
          rewrite [show (l784.set (Int.toNat x590) (x805 ++ (([wr (x803 + (((l0).length : Int)))] : List (Int))))).length = ((l784.set (Int.toNat x590) (x805 ++ (([wr (x803 + (((l0).length : Int)))] : List (Int))))).set (Int.toNat (wr (x590 + (((l0).length : Int))))) (x839 ++ (([x803] : List (Int))))).length from (List.length_set ..).symm]
          refine wS_end (by rfl) ?_
          refine eX_block ?_
          refine eX_then ?_
          refine cW_prune [(3, .int .i64 (((l0).length : Int))), (4, .slice A785 ((l784.set (Int.toNat x590) (x805 ++ (([wr (x803 + (((l0).length : Int)))] : List (Int))))).set (Int.toNat (wr (x590 + (((l0).length : Int))))) (x839 ++ (([x803] : List (Int))))).length cap786), (5, .int .i64 (x590)), (14, .slice A0 (l0).length cap0), (15, .int .i64 (((l0).length : Int))), (16, .int .i64 (x590)), (21, .slice A604 (x602).length cap605), (22, .int .i64 (((x602).length : Int))), (23, .int .i64 (x790))] (by kernel_rfl) (by kernel_rfl) (fun a874 => ?_)
          refine cW_region ?_
          refine wS_pure 2 [(23, .int .i64 (wr (x790 + 1))), (53, .int .i64 (wr (x790 + 1)))] (by kernel_rfl) ?_
          refine wS_end (by rfl) ?_
          have hq : (some (Ctl.next (((l784.set (Int.toNat x590) (x805 ++ (([wr (x803 + (((l0).length : Int)))] : List (Int))))).set (Int.toNat (wr (x590 + (((l0).length : Int))))) (x839 ++ (([x803] : List (Int)))), wr (x790 + 1)))) : Option (Ctl ((List (List (Int))) × Int) ((List (List (Int)))))) = some _ := hm
          replace hq := someE hq
          subst hq
          exact eX_next hx801 (fun hst => ⟨(l784.set (Int.toNat x590) (x805 ++ (([wr (x803 + (((l0).length : Int)))] : List (Int))))).set (Int.toNat (wr (x590 + (((l0).length : Int))))) (x839 ++ (([x803] : List (Int)))), A785, cap786, fp787, ((fr789 ++ fp826) ++ fp861), wr (x790 + 1), rfl, Fr.of hst (by kernel_rfl), F792, F793, F871, G869, hB, hZ⟩)
        · have hm := condF hb802 hm
          refine cW_exit ?_
          refine eX_then_exit ?_
          have hq : (some (Ctl.out l784) : Option (Ctl ((List (List (Int))) × Int) ((List (List (Int)))))) = some _ := hm
          replace hq := someE hq
          subst hq
          refine eX_outX hx801 (fun hr875 => ?_)
          replace hr875 := hr875.symm
          subst hr875
          refine eX_block_hit ?_
          exact eX_J (fun hst => ⟨l784, A785, cap786, fp787, fr789, rfl, Fr.of hst (by kernel_rfl), F792, F794, G795, hB, hZ⟩)
      · rintro a' w772 ⟨l773, A774, cap775, fp776, fr778, hJ, hF779, F780, F781, G782, hB, hZ⟩
        subst hJ
        refine Fr.goX hF779 (by kernel_rfl) ?_
        refine eX_block ?_
        refine eX_then ?_
        refine cW_region ?_
        refine wS_pure 2 [(16, .int .i64 (wr (x590 + 1))), (54, .int .i64 (wr (x590 + 1)))] (by kernel_rfl) ?_
        refine wS_end (by rfl) ?_
        have hq : (some (Ctl.next ((l773, wr (x590 + 1)))) : Option (Ctl ((List (List (Int))) × Int) ((List (List (Int)))))) = some _ := hm
        replace hq := someE hq
        subst hq
        exact eX_next hx600 (fun hst => ⟨l773, A774, cap775, fp776, fr778, wr (x590 + 1), rfl, Fr.of hst (by kernel_rfl), F780, F781, G782, hB, hZ⟩)
    · have hm := condF hb601 hm
      refine cW_exit ?_
      refine eX_then_exit ?_
      have hq : (some (Ctl.out l584) : Option (Ctl ((List (List (Int))) × Int) ((List (List (Int)))))) = some _ := hm
      replace hq := someE hq
      subst hq
      refine eX_outX hx600 (fun hr876 => ?_)
      replace hr876 := hr876.symm
      subst hr876
      refine eX_block_hit ?_
      exact eX_J (fun hst => ⟨l584, A585, cap586, fp587, fr589, rfl, Fr.of hst (by kernel_rfl), F593, G594, hB, hZ⟩)
  · rintro a' w573 ⟨l574, A575, cap576, fp577, fr579, hJ, hF580, F581, G582, hB, hZ⟩
    subst hJ
    refine Fr.goX hF580 (by kernel_rfl) ?_
    refine eX_then ?_
    refine cW_seq ?_
    refine cW_region ?_
    refine wS_pure 2 [(2, .slice A575 (l574).length cap576), (55, .slice A575 (l574).length cap576)] (by kernel_rfl) ?_
    refine wS_end (by rfl) ?_
    refine eX_then ?_
    refine cW_ret ?_
    have hq : (some l574 : Option ((List (List (Int))))) = some _ := hm
    replace hq := someE hq
    subst hq
    refine eX_ret (vs := [.slice A575 (l574).length cap576]) [.tmp 2] (by rfl) ⟨by (show lkE _ _ _ = _); kernel_rfl, trivial⟩ ?_
    exact ⟨A575, cap576, fp577, fr579, rfl, F581, G582, hB⟩

set_option maxRecDepth 100000 in
/-- slices.Index[[]int,int] -/
theorem c_slices_Index_int_int {w0 : World} {l0 : List (Int)} {A0 : Option Addr} {cap0 : Nat} {fp0 : List Nat} {p1 : Int} {r : (Int)} (hm : m_slices_Index_int_int l0 p1 = some r) (F0 : Sl 1 encI w0 fp0 A0 l0) :
    Calls Try.prog 126 #[.slice A0 (l0).length cap0, .int .i64 (p1)] w0 fun e w' => e = .returned (.int .i64 (r)) ∧ Chg [] w0 w' := by
  have L0 := F0.low
  have hB : Chg [] w0 w0 := Chg.refl _ _
  have hZ := Nat.le_refl w0.heap.size
  unfold m_slices_Index_int_int at hm
  refine enterE (N := 19) Try.func126 (by rfl) Try.ntmps126 (by simp) [(0, .slice A0 (l0).length cap0), (1, .int .i64 (p1))] (by rfl) (by kernel_rfl) (fun a => ?_)
  refine cW_seq ?_
  refine cW_region ?_
  refine wS_pure 1 [(4, .int .i64 (0))] (by kernel_rfl) ?_
  refine wS_end (by rfl) ?_
  refine eX_then ?_
  refine cW_seq ?_
  refine cW_seq ?_
  refine cW_region ?_
  refine wS_pure 3 [(8, .int .i64 (0)), (7, .int .i64 (((l0).length : Int))), (6, .slice A0 (l0).length cap0)] (by kernel_rfl) ?_
  refine wS_end (by rfl) ?_
  refine eX_then ?_
  obtain ⟨r21, hr22, hm⟩ := bindE hm
  have hm23 := hm
  refine cW_cut (fun a' w' => Sum.inl (()) = r21 ∧ Fr 19 [] a' ∧ Chg [] w0 w' ∧ w0.heap.size ≤ w'.heap.size) ?_ ?_
  · refine cW_block ?_
    refine cW_loop _ (fun (s24 : Int) a' w' => ∃ x18 : Int, x18 = s24 ∧ Fr 19 [(0, .slice A0 (l0).length cap0), (1, .int .i64 (p1)), (7, .int .i64 (((l0).length : Int))), (8, .int .i64 (x18))] a' ∧ Sl 1 encI w' fp0 A0 l0 ∧ Chg [] w0 w' ∧ w0.heap.size ≤ w'.heap.size) hr22 (fun hst => ⟨0, rfl, Fr.of hst (by kernel_rfl), F0, hB, hZ⟩) ?_
    rintro _ c25 a' w17 ⟨x18, rfl, hF19, F20, hB, hZ⟩ hx26
    refine Fr.goOn hF19 (by kernel_rfl) ?_
    have hm := hx26
    unfold m_slices_Index_int_int_s1 at hm
    refine cW_seq ?_
    refine cW_region ?_
    refine wS_pure 1 [(9, .bool (decide (x18 < (((l0).length : Int)))))] (by kernel_rfl) ?_
    refine wS_end (by rfl) ?_
    refine eX_then ?_
    refine cW_seq ?_
    refine cW_cond (t := decide (x18 < (((l0).length : Int)))) (by kernel_rfl) (fun hb27 => ?_) (fun hb27 => ?_)
    · have hm := condT hb27 hm
      refine cW_skip ?_
      refine eX_then ?_
      refine cW_seq ?_
      refine cW_block ?_
      refine cW_seq ?_
      refine cW_region ?_
      refine wS_pure 2 [(5, .int .i64 (x18)), (10, .int .i64 (x18))] (by kernel_rfl) ?_
      refine wS_end (by rfl) ?_
      refine eX_then ?_
      refine cW_seq ?_
      refine cW_region ?_
      refine wS_pure 3 [(13, .int .i64 (x18)), (12, .slice A0 (l0).length cap0), (11, .int .i64 (p1))] (by kernel_rfl) ?_
      obtain ⟨x28, hx29, hm⟩ := bindE hm
      refine wS_idx (d := 14) (T := 75) (A := A0) (n := (l0).length) (cap := cap0) (kd := .i64) (m := x18) (by kernel_rfl) sl75 (F20.is hx29) ?_
      refine wS_load1 (d := 15) (T := 3) (ad := (elA A0 1 (x18) 0)) (v := .int .i64 (x28)) (by kernel_rfl) vt3 (Sl.cell F20 hx29 0 (by rfl)) ?_
      refine wS_pure 1 [(16, .bool (p1 == x28))] (by kernel_rfl) ?_
      refine wS_end (by rfl) ?_
      refine eX_then ?_
      refine cW_cond (t := p1 == x28) (by kernel_rfl) (fun hb30 => ?_) (fun hb30 => ?_)
      · have hm := condT hb30 hm
        refine cW_seq ?_
        refine cW_region ?_
        refine wS_pure 2 [(4, .int .i64 (x18)), (17, .int .i64 (x18))] (by kernel_rfl) ?_
        refine wS_end (by rfl) ?_
        refine eX_then ?_
        refine cW_ret ?_
        refine eX_block_ret ?_
        refine eX_then_ret ?_
        have hq : (some (Ctl.out (Sum.inr x18)) : Option (Ctl (Int) (Sum (Unit) ((Int))))) = some _ := hm
        replace hq := someE hq
        subst hq
        refine eX_outR hx26 (fun hr => ?_)
        subst hr
        refine eX_block_ret ?_
        refine eX_then_ret ?_
        refine eX_then_ret ?_
        have hq : (some x18 : Option ((Int))) = some _ := hm23
        replace hq := someE hq
        subst hq
        refine eX_ret (vs := [.int .i64 (x18)]) [.tmp 4] (by rfl) ⟨by (show lkE _ _ _ = _); kernel_rfl, trivial⟩ ?_
        exact ⟨rfl, hB⟩
      · have hm := condF hb30 hm
        refine cW_skip ?_
        refine eX_block ?_
        refine eX_then ?_
        refine cW_region ?_
        refine wS_pure 2 [(8, .int .i64 (wr (x18 + 1))), (18, .int .i64 (wr (x18 + 1)))] (by kernel_rfl) ?_
        refine wS_end (by rfl) ?_
        have hq : (some (Ctl.next (wr (x18 + 1))) : Option (Ctl (Int) (Sum (Unit) ((Int))))) = some _ := hm
        replace hq := someE hq
        subst hq
        exact eX_next hx26 (fun hst => ⟨wr (x18 + 1), rfl, Fr.of hst (by kernel_rfl), F20, hB, hZ⟩)
    · have hm := condF hb27 hm
      refine cW_exit ?_
      refine eX_then_exit ?_
      have hq : (some (Ctl.out (Sum.inl (()))) : Option (Ctl (Int) (Sum (Unit) ((Int))))) = some _ := hm
      replace hq := someE hq
      subst hq
      refine eX_outX hx26 (fun hr31 => ?_)
      replace hr31 := hr31.symm
      subst hr31
      refine eX_block_hit ?_
      exact eX_J (fun hst => ⟨rfl, Fr.of hst (by kernel_rfl), hB, hZ⟩)
  · rintro a' w15 ⟨hJ, hF16, hB, hZ⟩
    subst hJ
    refine Fr.goX hF16 (by kernel_rfl) ?_
    refine eX_then ?_
    refine cW_seq ?_
    refine cW_region ?_
    refine wS_pure 1 [(4, .int .i64 ((-1)))] (by kernel_rfl) ?_
    refine wS_end (by rfl) ?_
    refine eX_then ?_
    refine cW_ret ?_
    have hq : (some ((-1)) : Option ((Int))) = some _ := hm
    replace hq := someE hq
    subst hq
    refine eX_ret (vs := [.int .i64 ((-1))]) [.tmp 4] (by rfl) ⟨by (show lkE _ _ _ = _); kernel_rfl, trivial⟩ ?_
    exact ⟨rfl, hB⟩

set_option maxRecDepth 100000 in
/-- slices.Contains[[]int,int] -/
theorem c_slices_Contains_int_int {w0 : World} {l0 : List (Int)} {A0 : Option Addr} {cap0 : Nat} {fp0 : List Nat} {p1 : Int} {r : (Bool)} (hm : m_slices_Contains_int_int l0 p1 = some r) (F0 : Sl 1 encI w0 fp0 A0 l0) :
    Calls Try.prog 99 #[.slice A0 (l0).length cap0, .int .i64 (p1)] w0 fun e w' => e = .returned (.bool (r)) ∧ Chg [] w0 w' := by
  have L0 := F0.low
  have hB : Chg [] w0 w0 := Chg.refl _ _
  have hZ := Nat.le_refl w0.heap.size
  unfold m_slices_Contains_int_int at hm
  refine enterE (N := 9) Try.func99 (by rfl) Try.ntmps99 (by simp) [(0, .slice A0 (l0).length cap0), (1, .int .i64 (p1))] (by rfl) (by kernel_rfl) (fun a => ?_)
  refine cW_seq ?_
  refine cW_region ?_
  refine wS_pure 1 [(4, .bool (false))] (by kernel_rfl) ?_
  refine wS_end (by rfl) ?_
  refine eX_then ?_
  refine cW_seq ?_
  refine cW_region ?_
  refine wS_pure 2 [(6, .int .i64 (p1)), (5, .slice A0 (l0).length cap0)] (by kernel_rfl) ?_
  obtain ⟨y2, hy3, hm⟩ := bindE hm
  refine wS_calls (d := 7) (f := 126) (vs := [.slice A0 (l0).length cap0, .int .i64 (p1)]) (by kernel_rfl) ent126 (c_slices_Index_int_int hy3 F0) ?_
  rintro _ w4 ⟨rfl, hc5⟩
  replace F0 := F0.chg hc5 Dj.nil
  replace hB := hB.inS hc5 inNil
  replace hZ := Nat.le_trans hZ hc5.size
  refine ⟨.int .i64 (y2), rfl, ?_⟩
  refine wS_pure 2 [(4, .bool (decide (y2 ≥ 0))), (8, .bool (decide (y2 ≥ 0)))] (by kernel_rfl) ?_
  refine wS_end (by rfl) ?_
  refine eX_then ?_
  refine cW_ret ?_
  have hq : (some (decide (y2 ≥ 0)) : Option ((Bool))) = some _ := hm
  replace hq := someE hq
  subst hq
  refine eX_ret (vs := [.bool (decide (y2 ≥ 0))]) [.tmp 4] (by rfl) ⟨by (show lkE _ _ _ = _); kernel_rfl, trivial⟩ ?_
  exact ⟨rfl, hB⟩

set_option maxRecDepth 100000 in
/-- bits.Mul64 -/
theorem c_math_bits_Mul64 {w0 : World} {p0 : Int} {p1 : Int} {r : (Int) × (Int)} (hm : m_math_bits_Mul64 p0 p1 = some r)  :
    Calls Try.prog 158 #[.int .u64 (p0), .int .u64 (p1)] w0 fun e w' => e = .returned (.tuple #[.int .u64 (r.1), .int .u64 (r.2)]) ∧ Chg [] w0 w' := by
  have hB : Chg [] w0 w0 := Chg.refl _ _
  have hZ := Nat.le_refl w0.heap.size
  unfold m_math_bits_Mul64 at hm
  refine enterE (N := 51) Try.func158 (by rfl) Try.ntmps158 (by simp) [(0, .int .u64 (p0)), (1, .int .u64 (p1))] (by rfl) (by kernel_rfl) (fun a => ?_)
  refine cW_seq ?_
  refine cW_region ?_
  refine wS_pure 2 [(5, .int .u64 (0)), (4, .int .u64 (0))] (by kernel_rfl) ?_
  refine wS_end (by rfl) ?_
  refine eX_then ?_
  refine cW_seq ?_
  refine cW_region ?_
  refine wS_pure 3 [(6, .int .u64 (andU p0 4294967295)), (15, .int .u64 (andU p0 4294967295)), (14, .int .u64 (p0))] (by kernel_rfl) ?_
  refine wS_end (by rfl) ?_
  refine eX_then ?_
  refine cW_seq ?_
  refine cW_region ?_
  refine wS_pure 3 [(7, .int .u64 (shrU p0 32)), (17, .int .u64 (shrU p0 32)), (16, .int .u64 (p0))] (by kernel_rfl) ?_
  refine wS_end (by rfl) ?_
  refine eX_then ?_
  refine cW_seq ?_
  refine cW_region ?_
  refine wS_pure 3 [(8, .int .u64 (andU p1 4294967295)), (19, .int .u64 (andU p1 4294967295)), (18, .int .u64 (p1))] (by kernel_rfl) ?_
  refine wS_end (by rfl) ?_
  refine eX_then ?_
  refine cW_seq ?_
  refine cW_region ?_
  refine wS_pure 3 [(9, .int .u64 (shrU p1 32)), (21, .int .u64 (shrU p1 32)), (20, .int .u64 (p1))] (by kernel_rfl) ?_
  refine wS_end (by rfl) ?_
  refine eX_then ?_
  refine cW_seq ?_
  refine cW_region ?_
  refine wS_pure 4 [(10, .int .u64 (wu ((andU p0 4294967295) * (andU p1 4294967295)))), (24, .int .u64 (wu ((andU p0 4294967295) * (andU p1 4294967295)))), (23, .int .u64 (andU p1 4294967295)), (22, .int .u64 (andU p0 4294967295))] (by kernel_rfl) ?_
  refine wS_end (by rfl) ?_
  refine eX_then ?_
  refine cW_seq ?_
  refine cW_region ?_
  refine wS_pure 7 [(11, .int .u64 (wu ((wu ((shrU p0 32) * (andU p1 4294967295))) + (shrU (wu ((andU p0 4294967295) * (andU p1 4294967295))) 32)))), (30, .int .u64 (wu ((wu ((shrU p0 32) * (andU p1 4294967295))) + (shrU (wu ((andU p0 4294967295) * (andU p1 4294967295))) 32)))), (29, .int .u64 (shrU (wu ((andU p0 4294967295) * (andU p1 4294967295))) 32)), (28, .int .u64 (wu ((andU p0 4294967295) * (andU p1 4294967295)))), (27, .int .u64 (wu ((shrU p0 32) * (andU p1 4294967295)))), (26, .int .u64 (andU p1 4294967295)), (25, .int .u64 (shrU p0 32))] (by kernel_rfl) ?_
  refine wS_end (by rfl) ?_
  refine eX_then ?_
  refine cW_prune [(0, .int .u64 (p0)), (1, .int .u64 (p1)), (6, .int .u64 (andU p0 4294967295)), (7, .int .u64 (shrU p0 32)), (9, .int .u64 (shrU p1 32)), (11, .int .u64 (wu ((wu ((shrU p0 32) * (andU p1 4294967295))) + (shrU (wu ((andU p0 4294967295) * (andU p1 4294967295))) 32))))] (by kernel_rfl) (by kernel_rfl) (fun a1 => ?_)
  refine cW_seq ?_
  refine cW_region ?_
  refine wS_pure 3 [(12, .int .u64 (andU (wu ((wu ((shrU p0 32) * (andU p1 4294967295))) + (shrU (wu ((andU p0 4294967295) * (andU p1 4294967295))) 32))) 4294967295)), (32, .int .u64 (andU (wu ((wu ((shrU p0 32) * (andU p1 4294967295))) + (shrU (wu ((andU p0 4294967295) * (andU p1 4294967295))) 32))) 4294967295)), (31, .int .u64 (wu ((wu ((shrU p0 32) * (andU p1 4294967295))) + (shrU (wu ((andU p0 4294967295) * (andU p1 4294967295))) 32))))] (by kernel_rfl) ?_
  refine wS_end (by rfl) ?_
  refine eX_then ?_
  refine cW_seq ?_
  refine cW_region ?_
  refine wS_pure 3 [(13, .int .u64 (shrU (wu ((wu ((shrU p0 32) * (andU p1 4294967295))) + (shrU (wu ((andU p0 4294967295) * (andU p1 4294967295))) 32))) 32)), (34, .int .u64 (shrU (wu ((wu ((shrU p0 32) * (andU p1 4294967295))) + (shrU (wu ((andU p0 4294967295) * (andU p1 4294967295))) 32))) 32)), (33, .int .u64 (wu ((wu ((shrU p0 32) * (andU p1 4294967295))) + (shrU (wu ((andU p0 4294967295) * (andU p1 4294967295))) 32))))] (by kernel_rfl) ?_
  refine wS_end (by rfl) ?_
  refine eX_then ?_
  refine cW_seq ?_
  refine cW_region ?_
  refine wS_pure 6 [(12, .int .u64 (wu ((andU (wu ((wu ((shrU p0 32) * (andU p1 4294967295))) + (shrU (wu ((andU p0 4294967295) * (andU p1 4294967295))) 32))) 4294967295) + (wu ((andU p0 4294967295) * (shrU p1 32)))))), (39, .int .u64 (wu ((andU (wu ((wu ((shrU p0 32) * (andU p1 4294967295))) + (shrU (wu ((andU p0 4294967295) * (andU p1 4294967295))) 32))) 4294967295) + (wu ((andU p0 4294967295) * (shrU p1 32)))))), (38, .int .u64 (wu ((andU p0 4294967295) * (shrU p1 32)))), (37, .int .u64 (shrU p1 32)), (36, .int .u64 (andU p0 4294967295)), (35, .int .u64 (andU (wu ((wu ((shrU p0 32) * (andU p1 4294967295))) + (shrU (wu ((andU p0 4294967295) * (andU p1 4294967295))) 32))) 4294967295))] (by kernel_rfl) ?_
  refine wS_end (by rfl) ?_
  refine eX_then ?_
  refine cW_seq ?_
  refine cW_region ?_
  refine wS_pure 9 [(4, .int .u64 (wu ((wu ((wu ((shrU p0 32) * (shrU p1 32))) + (shrU (wu ((wu ((shrU p0 32) * (andU p1 4294967295))) + (shrU (wu ((andU p0 4294967295) * (andU p1 4294967295))) 32))) 32))) + (shrU (wu ((andU (wu ((wu ((shrU p0 32) * (andU p1 4294967295))) + (shrU (wu ((andU p0 4294967295) * (andU p1 4294967295))) 32))) 4294967295) + (wu ((andU p0 4294967295) * (shrU p1 32))))) 32)))), (47, .int .u64 (wu ((wu ((wu ((shrU p0 32) * (shrU p1 32))) + (shrU (wu ((wu ((shrU p0 32) * (andU p1 4294967295))) + (shrU (wu ((andU p0 4294967295) * (andU p1 4294967295))) 32))) 32))) + (shrU (wu ((andU (wu ((wu ((shrU p0 32) * (andU p1 4294967295))) + (shrU (wu ((andU p0 4294967295) * (andU p1 4294967295))) 32))) 4294967295) + (wu ((andU p0 4294967295) * (shrU p1 32))))) 32)))), (46, .int .u64 (shrU (wu ((andU (wu ((wu ((shrU p0 32) * (andU p1 4294967295))) + (shrU (wu ((andU p0 4294967295) * (andU p1 4294967295))) 32))) 4294967295) + (wu ((andU p0 4294967295) * (shrU p1 32))))) 32)), (45, .int .u64 (wu ((andU (wu ((wu ((shrU p0 32) * (andU p1 4294967295))) + (shrU (wu ((andU p0 4294967295) * (andU p1 4294967295))) 32))) 4294967295) + (wu ((andU p0 4294967295) * (shrU p1 32)))))), (44, .int .u64 (wu ((wu ((shrU p0 32) * (shrU p1 32))) + (shrU (wu ((wu ((shrU p0 32) * (andU p1 4294967295))) + (shrU (wu ((andU p0 4294967295) * (andU p1 4294967295))) 32))) 32)))), (43, .int .u64 (shrU (wu ((wu ((shrU p0 32) * (andU p1 4294967295))) + (shrU (wu ((andU p0 4294967295) * (andU p1 4294967295))) 32))) 32)), (42, .int .u64 (wu ((shrU p0 32) * (shrU p1 32)))), (41, .int .u64 (shrU p1 32)), (40, .int .u64 (shrU p0 32))] (by kernel_rfl) ?_
  refine wS_end (by rfl) ?_
  refine eX_then ?_
  refine cW_prune [(0, .int .u64 (p0)), (1, .int .u64 (p1)), (4, .int .u64 (wu ((wu ((wu ((shrU p0 32) * (shrU p1 32))) + (shrU (wu ((wu ((shrU p0 32) * (andU p1 4294967295))) + (shrU (wu ((andU p0 4294967295) * (andU p1 4294967295))) 32))) 32))) + (shrU (wu ((andU (wu ((wu ((shrU p0 32) * (andU p1 4294967295))) + (shrU (wu ((andU p0 4294967295) * (andU p1 4294967295))) 32))) 4294967295) + (wu ((andU p0 4294967295) * (shrU p1 32))))) 32))))] (by kernel_rfl) (by kernel_rfl) (fun a2 => ?_)
  refine cW_seq ?_
  refine cW_region ?_
  refine wS_pure 4 [(5, .int .u64 (wu (p0 * p1))), (50, .int .u64 (wu (p0 * p1))), (49, .int .u64 (p1)), (48, .int .u64 (p0))] (by kernel_rfl) ?_
  refine wS_end (by rfl) ?_
  refine eX_then ?_
  refine cW_ret ?_
  have hq : (some ((wu ((wu ((wu ((shrU p0 32) * (shrU p1 32))) + (shrU (wu ((wu ((shrU p0 32) * (andU p1 4294967295))) + (shrU (wu ((andU p0 4294967295) * (andU p1 4294967295))) 32))) 32))) + (shrU (wu ((andU (wu ((wu ((shrU p0 32) * (andU p1 4294967295))) + (shrU (wu ((andU p0 4294967295) * (andU p1 4294967295))) 32))) 4294967295) + (wu ((andU p0 4294967295) * (shrU p1 32))))) 32)), wu (p0 * p1))) : Option ((Int) × (Int))) = some _ := hm
  replace hq := someE hq
  subst hq
  refine eX_ret (vs := [.int .u64 (wu ((wu ((wu ((shrU p0 32) * (shrU p1 32))) + (shrU (wu ((wu ((shrU p0 32) * (andU p1 4294967295))) + (shrU (wu ((andU p0 4294967295) * (andU p1 4294967295))) 32))) 32))) + (shrU (wu ((andU (wu ((wu ((shrU p0 32) * (andU p1 4294967295))) + (shrU (wu ((andU p0 4294967295) * (andU p1 4294967295))) 32))) 4294967295) + (wu ((andU p0 4294967295) * (shrU p1 32))))) 32))), .int .u64 (wu (p0 * p1))]) [.tmp 4, .tmp 5] (by rfl) ⟨by (show lkE _ _ _ = _); kernel_rfl, ⟨by (show lkE _ _ _ = _); kernel_rfl, trivial⟩⟩ ?_
  exact ⟨rfl, hB⟩

set_option maxRecDepth 100000 in
/-- bits.Mul -/
theorem c_math_bits_Mul {w0 : World} {p0 : Int} {p1 : Int} {r : (Int) × (Int)} (hm : m_math_bits_Mul p0 p1 = some r)  :
    Calls Try.prog 146 #[.int .u64 (p0), .int .u64 (p1)] w0 fun e w' => e = .returned (.tuple #[.int .u64 (r.1), .int .u64 (r.2)]) ∧ Chg [] w0 w' := by
  have hB : Chg [] w0 w0 := Chg.refl _ _
  have hZ := Nat.le_refl w0.heap.size
  unfold m_math_bits_Mul at hm
  refine enterE (N := 30) Try.func146 (by rfl) Try.ntmps146 (by simp) [(0, .int .u64 (p0)), (1, .int .u64 (p1))] (by rfl) (by kernel_rfl) (fun a => ?_)
  refine cW_seq ?_
  refine cW_region ?_
  refine wS_pure 2 [(5, .int .u64 (0)), (4, .int .u64 (0))] (by kernel_rfl) ?_
  refine wS_end (by rfl) ?_
  refine eX_then ?_
  refine cW_seq ?_
  refine cW_cond_f (by kernel_rfl) ?_
  refine cW_skip ?_
  refine eX_then ?_
  refine cW_seq ?_
  refine cW_region ?_
  refine wS_pure 2 [(24, .int .u64 (p1)), (23, .int .u64 (p0))] (by kernel_rfl) ?_
  obtain ⟨y1, hy2, hm⟩ := bindE hm
  refine wS_calls (d := 25) (f := 158) (vs := [.int .u64 (p0), .int .u64 (p1)]) (by kernel_rfl) ent158 (c_math_bits_Mul64 hy2) ?_
  rintro _ w3 ⟨rfl, hc4⟩
  replace hB := hB.inS hc4 inNil
  replace hZ := Nat.le_trans hZ hc4.size
  refine ⟨.tuple #[.int .u64 (y1.1), .int .u64 (y1.2)], rfl, ?_⟩
  refine wS_pure 5 [(9, .int .u64 (y1.2)), (8, .int .u64 (y1.1)), (27, .int .u64 (y1.2)), (26, .int .u64 (y1.1)), (22, .tuple #[.int .u64 (y1.1), .int .u64 (y1.2)])] (by kernel_rfl) ?_
  refine wS_end (by rfl) ?_
  refine eX_then ?_
  refine cW_seq ?_
  refine cW_region ?_
  refine wS_pure 4 [(5, .int .u64 (y1.2)), (4, .int .u64 (y1.1)), (29, .int .u64 (y1.2)), (28, .int .u64 (y1.1))] (by kernel_rfl) ?_
  refine wS_end (by rfl) ?_
  refine eX_then ?_
  refine cW_ret ?_
  have hq : (some ((y1.1, y1.2)) : Option ((Int) × (Int))) = some _ := hm
  replace hq := someE hq
  subst hq
  refine eX_ret (vs := [.int .u64 (y1.1), .int .u64 (y1.2)]) [.tmp 4, .tmp 5] (by rfl) ⟨by (show lkE _ _ _ = _); kernel_rfl, ⟨by (show lkE _ _ _ = _); kernel_rfl, trivial⟩⟩ ?_
  exact ⟨rfl, hB⟩

set_option maxRecDepth 100000 in
/-- slices.Repeat[[]int,int] -/
theorem c_slices_Repeat_int_int {w0 : World} {l0 : List (Int)} {A0 : Option Addr} {cap0 : Nat} {fp0 : List Nat} {p1 : Int} {r : (List (Int))} (hm : m_slices_Repeat_int_int l0 p1 = some r) (F0 : Sl 1 encI w0 fp0 A0 l0) :
    Calls Try.prog 125 #[.slice A0 (l0).length cap0, .int .i64 (p1)] w0 fun e w' => ∃ A100 cap100 fp100, e = .returned (.slice A100 (r).length cap100) ∧ Ow 1 encI 3 w' fp100 A100 cap100 r ∧ (∀ x ∈ fp100, w0.heap.size ≤ x) ∧ Chg [] w0 w' := by
  have L0 := F0.low
  have hB : Chg [] w0 w0 := Chg.refl _ _
  have hZ := Nat.le_refl w0.heap.size
  unfold m_slices_Repeat_int_int at hm
  refine enterE (N := 48) Try.func125 (by rfl) Try.ntmps125 (by simp) [(0, .slice A0 (l0).length cap0), (1, .int .i64 (p1))] (by rfl) (by kernel_rfl) (fun a => ?_)
  refine cW_seq ?_
  refine cW_region ?_
  refine wS_pure 1 [(4, .slice none 0 0)] (by kernel_rfl) ?_
  refine wS_end (by rfl) ?_
  refine eX_then ?_
  refine cW_seq ?_
  obtain ⟨s6, hs7, hm⟩ := bindE hm
  refine cW_cut (fun a' w' => () = s6 ∧ Fr 48 [(0, .slice A0 (l0).length cap0), (1, .int .i64 (p1))] a' ∧ Sl 1 encI w' fp0 A0 l0 ∧ Chg [] w0 w' ∧ w0.heap.size ≤ w'.heap.size) ?_ ?_
  · have hm := hs7
    refine cW_seq ?_
    refine cW_region ?_
    refine wS_pure 2 [(10, .bool (decide (p1 < 0))), (9, .int .i64 (p1))] (by kernel_rfl) ?_
    refine wS_end (by rfl) ?_
    refine eX_then ?_
    refine cW_cond (t := decide (p1 < 0)) (by kernel_rfl) (fun hb8 => ?_) (fun hb8 => ?_)
    · have hm := condT hb8 hm
      refine cW_region ?_
      exact noneE hm
    · have hm := condF hb8 hm
      refine cW_skip ?_
      have hq : (some (()) : Option (Unit)) = some _ := hm
      replace hq := someE hq
      subst hq
      exact eX_J (fun hst => ⟨rfl, Fr.of hst (by kernel_rfl), F0, hB, hZ⟩)
  · rintro a' w3 ⟨hJ, hF4, F5, hB, hZ⟩
    subst hJ
    refine Fr.goX hF4 (by kernel_rfl) ?_
    refine eX_then ?_
    refine cW_seq ?_
    refine cW_region ?_
    refine wS_pure 5 [(17, .int .u64 (wu p1)), (16, .int .i64 (p1)), (15, .int .u64 (wu (((l0).length : Int)))), (14, .int .i64 (((l0).length : Int))), (13, .slice A0 (l0).length cap0)] (by kernel_rfl) ?_
    obtain ⟨y9, hy10, hm⟩ := bindE hm
    refine wS_calls (d := 18) (f := 146) (vs := [.int .u64 (wu (((l0).length : Int))), .int .u64 (wu p1)]) (by kernel_rfl) ent146 (c_math_bits_Mul hy10) ?_
    rintro _ w11 ⟨rfl, hc12⟩
    replace F5 := F5.chg hc12 Dj.nil
    replace hB := hB.inS hc12 inNil
    replace hZ := Nat.le_trans hZ hc12.size
    refine ⟨.tuple #[.int .u64 (y9.1), .int .u64 (y9.2)], rfl, ?_⟩
    refine wS_pure 5 [(6, .int .u64 (y9.2)), (5, .int .u64 (y9.1)), (20, .int .u64 (y9.2)), (19, .int .u64 (y9.1)), (12, .tuple #[.int .u64 (y9.1), .int .u64 (y9.2)])] (by kernel_rfl) ?_
    refine wS_end (by rfl) ?_
    refine eX_then ?_
    refine cW_seq ?_
    obtain ⟨s18, hs19, hm⟩ := bindE hm
    refine cW_cut (fun a' w' => () = s18 ∧ Fr 48 [(0, .slice A0 (l0).length cap0), (6, .int .u64 (y9.2))] a' ∧ Sl 1 encI w' fp0 A0 l0 ∧ Chg [] w0 w' ∧ w0.heap.size ≤ w'.heap.size) ?_ ?_
    · have hm := hs19
      refine cW_seq ?_
      refine cW_region ?_
      refine wS_pure 3 [(23, .bool (decide (y9.1 > 0))), (22, .bool (decide (y9.1 > 0))), (21, .int .u64 (y9.1))] (by kernel_rfl) ?_
      refine wS_bool (decide (y9.1 > 0)) (fun hb20 => ?_) (fun hb20 => ?_)
      · have hm := condT hb20 hm
        rewrite [hb20]
        refine wS_pure 3 [(26, .bool (true)), (25, undef), (24, undef)] (by kernel_rfl) ?_
        refine wS_end (by rfl) ?_
        refine eX_then ?_
        refine cW_cond_t (by kernel_rfl) ?_
        refine cW_region ?_
        exact noneE hm
      · have hm := condF hb20 hm
        rewrite [hb20]
        refine wS_pure 3 [(26, .bool (decide (y9.2 > 9223372036854775807))), (25, .bool (decide (y9.2 > 9223372036854775807))), (24, .int .u64 (y9.2))] (by kernel_rfl) ?_
        refine wS_end (by rfl) ?_
        refine eX_then ?_
        refine cW_cond (t := decide (y9.2 > 9223372036854775807)) (by kernel_rfl) (fun hb21 => ?_) (fun hb21 => ?_)
        · have hm := condT hb21 hm
          refine cW_region ?_
          exact noneE hm
        · have hm := condF hb21 hm
          refine cW_skip ?_
          have hq : (some (()) : Option (Unit)) = some _ := hm
          replace hq := someE hq
          subst hq
          exact eX_J (fun hst => ⟨rfl, Fr.of hst (by kernel_rfl), F5, hB, hZ⟩)
    · rintro a' w15 ⟨hJ, hF16, F17, hB, hZ⟩
      subst hJ
      refine Fr.goX hF16 (by kernel_rfl) ?_
      refine eX_then ?_
      refine cW_seq ?_
      refine cW_region ?_
      refine wS_pure 2 [(29, .int .i64 (wr y9.2)), (28, .int .u64 (y9.2))] (by kernel_rfl) ?_
      obtain ⟨_, hk22, hm⟩ := bindE hm
      replace hk22 := mkE hk22
      refine wS_make (enc := encI) (x0 := (0 : Int)) (d := 30) (t := 75) (T := 3) (k1 := .i64) (k2 := .i64) (m := wr y9.2) (by kernel_rfl) el75 encI_ok (by rfl) hk22.1 hk22.2 ?_
      intro b23 w24 G25 F26 hc27
      replace F17 := F17.chg hc27 Dj.nil
      replace hB := hB.inS hc27 inNil
      replace G25 := Nat.le_trans hZ G25
      replace G25 := low1 G25
      replace hZ := Nat.le_trans hZ hc27.size
      refine wS_pure 1 [(7, .slice (some ⟨b23, 0, none⟩) (List.replicate (Int.toNat (wr y9.2)) ((0 : Int))).length (Int.toNat (wr y9.2)))] (by kernel_rfl) ?_
      refine wS_end (by rfl) ?_
      refine eX_then ?_
      refine cW_seq ?_
      refine cW_region ?_
      refine wS_pure 2 [(32, .slice A0 (l0).length cap0), (31, .slice (some ⟨b23, 0, none⟩) (List.replicate (Int.toNat (wr y9.2)) ((0 : Int))).length (Int.toNat (wr y9.2)))] (by kernel_rfl) ?_
      refine wS_copy (k := 1) (enc := encI) (l := List.replicate (Int.toNat (wr y9.2)) ((0 : Int))) (l2 := l0) (lo := 0) (d := 33) (t := 75) (T := 3) (A := (some ⟨b23, 0, none⟩)) (A' := (some ⟨b23, 0, none⟩)) (A2 := A0) (cap := (Int.toNat (wr y9.2))) (c' := (Int.toNat (wr y9.2))) (c2 := cap0) (by kernel_rfl) (Nat.sub_zero _).symm el75 encI_ok F26 (hA0 _ _ _) (Nat.zero_le _) F17 ?_
      intro w29 F30 hlc31 hc32
      replace F17 := F17.chg hc32 (Dj.of L0 G25)
      replace hB := hB.inS hc32 (inLow G25)
      replace hZ := Nat.le_trans hZ hc32.size
      clear F26
      rewrite [show (List.replicate (Int.toNat (wr y9.2)) ((0 : Int))).length = (cpy (List.replicate (Int.toNat (wr y9.2)) ((0 : Int))) 0 l0).length from hlc31.symm]
      refine wS_pure 1 [(8, .int .i64 (((min (l0).length ((cpy (List.replicate (Int.toNat (wr y9.2)) ((0 : Int))) 0 l0).length - Int.toNat 0) : Nat) : Int)))] (by kernel_rfl) ?_
      refine wS_end (by rfl) ?_
      refine eX_then ?_
      refine cW_seq ?_
      obtain ⟨r158, hr159, hm⟩ := bindE hm
      have hm160 := hm
      refine cW_cut (fun a' w' => ∃ l150 : List (Int), l150 = r158 ∧ Fr 48 [(7, .slice (some ⟨b23, 0, none⟩) (l150).length (Int.toNat (wr y9.2)))] a' ∧ Ow 1 encI 3 w' [b23] (some ⟨b23, 0, none⟩) (Int.toNat (wr y9.2)) l150 ∧ Chg [] w0 w' ∧ w0.heap.size ≤ w'.heap.size) ?_ ?_
      · refine cW_block ?_
        refine cW_loop _ (fun (s161 : Int × (List (Int))) a' w' => ∃ x154 : Int, ∃ l155 : List (Int), (x154, l155) = s161 ∧ Fr 48 [(7, .slice (some ⟨b23, 0, none⟩) (l155).length (Int.toNat (wr y9.2))), (8, .int .i64 (x154))] a' ∧ Ow 1 encI 3 w' [b23] (some ⟨b23, 0, none⟩) (Int.toNat (wr y9.2)) l155 ∧ Chg [] w0 w' ∧ w0.heap.size ≤ w'.heap.size) hr159 (fun hst => ⟨((min (l0).length ((cpy (List.replicate (Int.toNat (wr y9.2)) ((0 : Int))) 0 l0).length - Int.toNat 0) : Nat) : Int), cpy (List.replicate (Int.toNat (wr y9.2)) ((0 : Int))) 0 l0, rfl, Fr.of hst (by kernel_rfl), F30, hB, hZ⟩) ?_
        rintro _ c162 a' w153 ⟨x154, l155, rfl, hF156, F157, hB, hZ⟩ hx163
        refine Fr.goOn hF156 (by kernel_rfl) ?_
        have hm := hx163
        unfold m_slices_Repeat_int_int_s1 at hm
        refine cW_seq ?_
        refine cW_seq ?_
        refine cW_region ?_
        refine wS_pure 4 [(37, .bool (decide (x154 < (((l155).length : Int))))), (36, .int .i64 (((l155).length : Int))), (35, .slice (some ⟨b23, 0, none⟩) (l155).length (Int.toNat (wr y9.2))), (34, .int .i64 (x154))] (by kernel_rfl) ?_
        refine wS_end (by rfl) ?_
        refine eX_then ?_
        refine cW_cond (t := decide (x154 < (((l155).length : Int)))) (by kernel_rfl) (fun hb164 => ?_) (fun hb164 => ?_)
        · have hm := condT hb164 hm
          refine cW_skip ?_
          refine eX_then ?_
          refine cW_block ?_
          refine cW_drawnTail [b23] 8 (by kernel_rfl) (by kernel_rfl) (fun w192 hc193 => ?_)
          replace F157 := F157.chg hc193 Dj.nil
          replace hB := hB.inS hc193 inNil
          replace hZ := Nat.le_trans hZ hc193.size
          have hS := Chg.refl [b23] w192
          have Z194 := F157
          refine wH_take [0, 1, 2] [2, 1, 0] [(40, .int .i64 (x154)), (39, .slice (some ⟨b23, 0, none⟩) (l155).length (Int.toNat (wr y9.2))), (38, .int .i64 (x154))] (by kernel_rfl) (qT (qB (qL (qB (qT (qT qZ)))))) (by kernel_rfl) ?_
          obtain ⟨y195, hy196, hm⟩ := bindE hm
          refine wH_cutA (k := 1) (enc := encI) (fp := [b23]) (l := l155) (i := 3) (d := 41) (T := 75) (A := (some ⟨b23, 0, none⟩)) (cap := (Int.toNat (wr y9.2))) (vlo := some (.int .i64 (x154))) (vhi := none) (lo := x154) (hi := ((l155).length : Int)) (n := 0) (by kernel_rfl) (qT (qB (qL (qB (qT (qT qZ)))))) (by kernel_rfl) (by kernel_rfl) sl75 (Or.inl rfl) (Or.inr ⟨rfl, rfl⟩) F157.cap_le hy196 ?_
          intro A197 cap198 hA203 hcut199 hcap200
          have F201 := hcut199 _ (F157.sl encI_ok)
          have Fz202 := hcut199 _ (Z194.sl encI_ok)
          refine wH_take [4, 5] [5, 4, 3, 2, 1, 0] [(43, .int .i64 (x154)), (42, .slice (some ⟨b23, 0, none⟩) (l155).length (Int.toNat (wr y9.2)))] (by kernel_rfl) (qT (qB (qL (qB (qT (qT qZ)))))) (by kernel_rfl) ?_
          obtain ⟨y205, hy206, hm⟩ := bindE hm
          refine wH_cutA (k := 1) (enc := encI) (fp := [b23]) (l := l155) (i := 6) (d := 44) (T := 75) (A := (some ⟨b23, 0, none⟩)) (cap := (Int.toNat (wr y9.2))) (vlo := none) (vhi := some (.int .i64 (x154))) (lo := 0) (hi := x154) (n := 0) (by kernel_rfl) (qT (qB (qL (qB (qT (qT qZ)))))) (by kernel_rfl) (by kernel_rfl) sl75 (Or.inr ⟨rfl, rfl⟩) (Or.inl rfl) F157.cap_le hy206 ?_
          intro A207 cap208 hA213 hcut209 hcap210
          have F211 := hcut209 _ (F157.sl encI_ok)
          have Fz212 := hcut209 _ (Z194.sl encI_ok)
          refine wH_all [7] (by rfl) (by kernel_rfl) (by simp) ⟨⟨by kernel_rfl, ?_⟩, trivial⟩
          refine wS_copy (k := 1) (enc := encI) (l := l155) (l2 := y205) (lo := x154) (d := 45) (t := 75) (T := 3) (A := (some ⟨b23, 0, none⟩)) (A' := A197) (A2 := A207) (cap := (Int.toNat (wr y9.2))) (c' := cap198) (c2 := cap208) (by kernel_rfl) (slci_len_end hy196) el75 encI_ok F157 hA203 (slci_lo hy196) F211 ?_
          intro w215 F216 hlc217 hc218
          replace hB := hB.inS hc218 (inLow G25)
          have hSz := hS
          replace hS := hS.trans hc218
          replace hZ := Nat.le_trans hZ hc218.size
          clear F157
          rewrite [show (l155).length = (cpy l155 x154 y205).length from hlc217.symm]
          refine wS_end (by kernel_rfl) ?_
          refine eX_KH hS ?_
          refine wH_done (by kernel_rfl) ?_
          refine eX_tail ?_
          refine wS_pure 2 [(8, .int .i64 (wr (x154 + (((min (y205).length ((cpy l155 x154 y205).length - Int.toNat x154) : Nat) : Int))))), (46, .int .i64 (wr (x154 + (((min (y205).length ((cpy l155 x154 y205).length - Int.toNat x154) : Nat) : Int)))))] (by kernel_rfl) ?_
          refine wS_end (by rfl) ?_
          refine eX_block ?_
          have hq : (some (Ctl.next ((wr (x154 + (((min (y205).length ((cpy l155 x154 y205).length - Int.toNat x154) : Nat) : Int))), cpy l155 x154 y205))) : Option (Ctl (Int × (List (Int))) ((List (Int))))) = some _ := hm
          replace hq := someE hq
          subst hq
          exact eX_next hx163 (fun hst => ⟨wr (x154 + (((min (y205).length ((cpy l155 x154 y205).length - Int.toNat x154) : Nat) : Int))), cpy l155 x154 y205, rfl, Fr.of hst (by kernel_rfl), F216, hB, hZ⟩)
        · have hm := condF hb164 hm
          refine cW_exit ?_
          refine eX_then_exit ?_
          have hq : (some (Ctl.out l155) : Option (Ctl (Int × (List (Int))) ((List (Int))))) = some _ := hm
          replace hq := someE hq
          subst hq
          refine eX_outX hx163 (fun hr219 => ?_)
          replace hr219 := hr219.symm
          subst hr219
          refine eX_block_hit ?_
          exact eX_J (fun hst => ⟨l155, rfl, Fr.of hst (by kernel_rfl), F157, hB, hZ⟩)
      · rintro a' w149 ⟨l150, hJ, hF151, F152, hB, hZ⟩
        subst hJ
        refine Fr.goX hF151 (by kernel_rfl) ?_
        refine eX_then ?_
        refine cW_seq ?_
        refine cW_region ?_
        refine wS_pure 2 [(4, .slice (some ⟨b23, 0, none⟩) (l150).length (Int.toNat (wr y9.2))), (47, .slice (some ⟨b23, 0, none⟩) (l150).length (Int.toNat (wr y9.2)))] (by kernel_rfl) ?_
        refine wS_end (by rfl) ?_
        refine eX_then ?_
        refine cW_ret ?_
        have hq : (some l150 : Option ((List (Int)))) = some _ := hm
        replace hq := someE hq
        subst hq
        refine eX_ret (vs := [.slice (some ⟨b23, 0, none⟩) (l150).length (Int.toNat (wr y9.2))]) [.tmp 4] (by rfl) ⟨by (show lkE _ _ _ = _); kernel_rfl, trivial⟩ ?_
        exact ⟨(some ⟨b23, 0, none⟩), (Int.toNat (wr y9.2)), [b23], rfl, F152, G25, hB⟩

set_option maxRecDepth 100000 in
/-- impl.graph).back -/
theorem c_impl_graph_back {w0 : World} {l0 : List (List (Int))} {A0 : Option Addr} {cap0 : Nat} {fp0 : List Nat} {p1 : Int} {r : (List (Int))} (hm : m_impl_graph_back l0 p1 = some r) (F0 : SlR 1 encI w0 fp0 A0 l0) :
    Calls Try.prog 97 #[.slice A0 (l0).length cap0, .int .i64 (p1)] w0 fun e w' => ∃ A100 cap100 fp100, e = .returned (.slice A100 (r).length cap100) ∧ Ow 1 encI 3 w' fp100 A100 cap100 r ∧ (∀ x ∈ fp100, w0.heap.size ≤ x) ∧ Chg [] w0 w' := by
  have L0 := F0.low
  have hB : Chg [] w0 w0 := Chg.refl _ _
  have hZ := Nat.le_refl w0.heap.size
  unfold m_impl_graph_back at hm
  refine enterE (N := 58) Try.func97 (by rfl) Try.ntmps97 (by simp) [(0, .slice A0 (l0).length cap0), (1, .int .i64 (p1))] (by rfl) (by kernel_rfl) (fun a => ?_)
  refine cW_seq ?_
  refine cW_region ?_
  refine wS_pure 1 [(4, .slice none 0 0)] (by kernel_rfl) ?_
  refine wS_end (by rfl) ?_
  refine eX_then ?_
  refine cW_seq ?_
  refine cW_region ?_
  refine wS_bs (enc := encI) ([(-1)] : List (Int)) [.int .i64 ((-1))] (d := 9) (t := 75) (T := 3) (n := 1) (ps := [(0, .int .i64 ((-1)))]) (by kernel_rfl) el75 encI_ok (by rfl) (by omega) (by omega) (by kernel_rfl) (by rfl) ?_
  intro b2 w3 G4 F5 hc6
  replace F0 := F0.chg hc6 Dj.nil
  replace hB := hB.inS hc6 inNil
  replace G4 := Nat.le_trans hZ G4
  replace G4 := low1 G4
  replace hZ := Nat.le_trans hZ hc6.size
  refine wS_pure 2 [(11, .int .i64 (((l0).length : Int))), (10, .slice A0 (l0).length cap0)] (by kernel_rfl) ?_
  obtain ⟨y8, hy9, hm⟩ := bindE hm
  refine wS_calls (d := 12) (f := 125) (vs := [.slice (some ⟨b2, 0, none⟩) (([(-1)] : List (Int))).length 1, .int .i64 (((l0).length : Int))]) (by kernel_rfl) ent125 (c_slices_Repeat_int_int hy9 (F5.sl encI_ok)) ?_
  rintro _ w10 ⟨A12, cap13, fp14, rfl, F15, G16, hc11⟩
  have D19 : Dj [b2] fp14 := Dj.of F5.low G16
  replace F0 := F0.chg hc11 Dj.nil
  replace F5 := F5.chg hc11 Dj.nil
  replace hB := hB.inS hc11 inNil
  replace G16 := low_le hZ G16
  replace hZ := Nat.le_trans hZ hc11.size
  refine ⟨.slice A12 (y8).length cap13, rfl, ?_⟩
  refine wS_pure 1 [(5, .slice A12 (y8).length cap13)] (by kernel_rfl) ?_
  refine wS_end (by rfl) ?_
  refine eX_then ?_
  refine cW_seq ?_
  refine cW_region ?_
  refine wS_pure 2 [(14, .int .i64 (p1)), (13, .slice A12 (y8).length cap13)] (by kernel_rfl) ?_
  obtain ⟨x20, hx21, hm⟩ := bindE hm
  refine wS_idx (d := 15) (T := 75) (A := A12) (n := (y8).length) (cap := cap13) (kd := .i64) (m := p1) (by kernel_rfl) sl75 ((F15.sl encI_ok).is hx21) ?_
  refine wS_storeEl (x := x20) 0 (T := 3) (U := 3) (cap := cap13) (j := 0) (A := A12) (v := .int .i64 (0)) (vs := [.int .i64 (0)]) (m := p1) (by kernel_rfl) (by rfl) sz3 (by rfl) encI_ok F15 hx21 (by simp only [List.length_cons, List.length_nil]; omega) (by rfl) ?_
  intro w22 F23 hc24
  replace F0 := F0.chg hc24 (Dj.of L0 G16)
  replace F5 := F5.chg hc24 D19
  replace hB := hB.inS hc24 (inLow G16)
  replace hZ := Nat.le_trans hZ hc24.size
  clear F15
  rewrite [show (y8).length = (y8.set (Int.toNat p1) 0).length from (List.length_set ..).symm]
  refine wS_end (by rfl) ?_
  refine eX_then ?_
  refine cW_seq ?_
  refine cW_seq ?_
  refine cW_region ?_
  refine wS_pure 1 [(16, .int .i64 (p1))] (by kernel_rfl) ?_
  refine wS_bs (enc := encI) ([p1] : List (Int)) [.int .i64 (p1)] (d := 17) (t := 75) (T := 3) (n := 1) (ps := [(0, .int .i64 (p1))]) (by kernel_rfl) el75 encI_ok (by rfl) (by omega) (by omega) (by kernel_rfl) (by rfl) ?_
  intro b25 w26 G27 F28 hc29
  have D31 : Dj [b2] [b25] := Dj.of F5.low (low1 G27)
  have D32 : Dj fp14 [b25] := Dj.of F23.low (low1 G27)
  replace F0 := F0.chg hc29 Dj.nil
  replace F5 := F5.chg hc29 Dj.nil
  replace F23 := F23.chg hc29 Dj.nil
  replace hB := hB.inS hc29 inNil
  replace G27 := Nat.le_trans hZ G27
  replace G27 := low1 G27
  replace hZ := Nat.le_trans hZ hc29.size
  refine wS_pure 1 [(6, .slice (some ⟨b25, 0, none⟩) (([p1] : List (Int))).length 1)] (by kernel_rfl) ?_
  refine wS_end (by rfl) ?_
  refine eX_then ?_
  obtain ⟨r866, hr867, hm⟩ := bindE hm
  have hm868 := hm
  refine cW_cut (fun a' w' => ∃ l850 : List (Int), l850 = r866 ∧ Fr 58 [(5, .slice A12 (l850).length cap13)] a' ∧ Ow 1 encI 3 w' fp14 A12 cap13 l850 ∧ Chg [] w0 w' ∧ w0.heap.size ≤ w'.heap.size) ?_ ?_
  · refine cW_block ?_
    refine cW_loop _ (fun (s869 : (List (Int)) × (List (Int))) a' w' => ∃ l854 : List (Int), ∃ A855 : Option Addr, ∃ cap856 : Nat, ∃ fp857 : List Nat, ∃ l859 : List (Int), (l854, l859) = s869 ∧ Fr 58 [(0, .slice A0 (l0).length cap0), (5, .slice A12 (l859).length cap13), (6, .slice A855 (l854).length cap856)] a' ∧ SlR 1 encI w' fp0 A0 l0 ∧ Ow 1 encI 3 w' fp14 A12 cap13 l859 ∧ OwO 1 encI 3 w' fp857 A855 cap856 l854 ∧ (∀ x ∈ fp857, w0.heap.size ≤ x) ∧ Dj fp14 fp857 ∧ Chg [] w0 w' ∧ w0.heap.size ≤ w'.heap.size) hr867 (fun hst => ⟨([p1] : List (Int)), (some ⟨b25, 0, none⟩), 1, [b25], y8.set (Int.toNat p1) 0, rfl, Fr.of hst (by kernel_rfl), F0, F23, F28.off, G27, D32, hB, hZ⟩) ?_
    rintro _ c870 a' w853 ⟨l854, A855, cap856, fp857, l859, rfl, hF860, F861, F862, F863, G864, D865, hB, hZ⟩ hx871
    refine Fr.goOn hF860 (by kernel_rfl) ?_
    have hm := hx871
    unfold m_impl_graph_back_s3 at hm
    refine cW_seq ?_
    refine cW_seq ?_
    refine cW_region ?_
    refine wS_pure 3 [(20, .bool (decide ((((l854).length : Int)) > 0))), (19, .int .i64 (((l854).length : Int))), (18, .slice A855 (l854).length cap856)] (by kernel_rfl) ?_
    refine wS_end (by rfl) ?_
    refine eX_then ?_
    refine cW_cond (t := decide ((((l854).length : Int)) > 0)) (by kernel_rfl) (fun hb872 => ?_) (fun hb872 => ?_)
    · have hm := condT hb872 hm
      refine cW_skip ?_
      refine eX_then ?_
      refine cW_seq ?_
      refine cW_block ?_
      refine cW_seq ?_
      refine cW_region ?_
      refine wS_pure 3 [(25, .int .i64 (0)), (24, .int .i64 (((l0).length : Int))), (23, .slice A0 (l0).length cap0)] (by kernel_rfl) ?_
      refine wS_end (by rfl) ?_
      refine eX_then ?_
      obtain ⟨r1145, hr1146, hm⟩ := bindE hm
      have hm1147 := hm
      refine cW_cut (fun a' w' => ∃ l1119 : List (Int), ∃ A1120 : Option Addr, ∃ cap1121 : Nat, ∃ fp1122 : List Nat, ∃ l1124 : List (Int), (l1119, l1124) = r1145 ∧ Fr 58 [(0, .slice A0 (l0).length cap0), (5, .slice A12 (l1124).length cap13), (6, .slice A1120 (l1119).length cap1121)] a' ∧ SlR 1 encI w' fp0 A0 l0 ∧ Ow 1 encI 3 w' fp14 A12 cap13 l1124 ∧ OwO 1 encI 3 w' fp1122 A1120 cap1121 l1119 ∧ (∀ x ∈ fp1122, w0.heap.size ≤ x) ∧ Dj fp14 fp1122 ∧ Chg [] w0 w' ∧ w0.heap.size ≤ w'.heap.size) ?_ ?_
      · refine cW_block ?_
        refine cW_loop _ (fun (s1148 : (List (Int)) × Int × (List (Int))) a' w' => ∃ l1132 : List (Int), ∃ A1133 : Option Addr, ∃ cap1134 : Nat, ∃ fp1135 : List Nat, ∃ x1137 : Int, ∃ l1138 : List (Int), (l1132, x1137, l1138) = s1148 ∧ Fr 58 [(0, .slice A0 (l0).length cap0), (5, .slice A12 (l1138).length cap13), (6, .slice A1133 (l1132).length cap1134), (23, .slice A0 (l0).length cap0), (24, .int .i64 (((l0).length : Int))), (25, .int .i64 (x1137))] a' ∧ SlR 1 encI w' fp0 A0 l0 ∧ Ow 1 encI 3 w' fp14 A12 cap13 l1138 ∧ OwO 1 encI 3 w' fp1135 A1133 cap1134 l1132 ∧ (∀ x ∈ fp1135, w0.heap.size ≤ x) ∧ Dj fp14 fp1135 ∧ Chg [] w0 w' ∧ w0.heap.size ≤ w'.heap.size) hr1146 (fun hst => ⟨l854, A855, cap856, fp857, 0, l859, rfl, Fr.of hst (by kernel_rfl), F861, F862, F863, G864, D865, hB, hZ⟩) ?_
        rintro _ c1149 a' w1131 ⟨l1132, A1133, cap1134, fp1135, x1137, l1138, rfl, hF1139, F1140, F1141, F1142, G1143, D1144, hB, hZ⟩ hx1150
        refine Fr.goOn hF1139 (by kernel_rfl) ?_
        have hm := hx1150
        unfold m_impl_graph_back_s4 at hm
        refine cW_seq ?_
        refine cW_region ?_
        refine wS_pure 1 [(26, .bool (decide (x1137 < (((l0).length : Int)))))] (by kernel_rfl) ?_
        refine wS_end (by rfl) ?_
        refine eX_then ?_
        refine cW_seq ?_
        refine cW_cond (t := decide (x1137 < (((l0).length : Int)))) (by kernel_rfl) (fun hb1151 => ?_) (fun hb1151 => ?_)
        · have hm := condT hb1151 hm
          refine cW_skip ?_
          refine eX_then ?_
          refine cW_seq ?_
          refine cW_block ?_
          obtain ⟨s1214, hs1215, hm⟩ := bindE hm
          refine cW_cut (fun a' w' => ∃ l1202 : List (Int), ∃ A1203 : Option Addr, ∃ cap1204 : Nat, ∃ fp1205 : List Nat, ∃ l1207 : List (Int), (l1202, l1207) = s1214 ∧ Fr 58 [(0, .slice A0 (l0).length cap0), (5, .slice A12 (l1207).length cap13), (6, .slice A1203 (l1202).length cap1204), (23, .slice A0 (l0).length cap0), (24, .int .i64 (((l0).length : Int))), (25, .int .i64 (x1137))] a' ∧ SlR 1 encI w' fp0 A0 l0 ∧ Ow 1 encI 3 w' fp14 A12 cap13 l1207 ∧ OwO 1 encI 3 w' fp1205 A1203 cap1204 l1202 ∧ (∀ x ∈ fp1205, w0.heap.size ≤ x) ∧ Dj fp14 fp1205 ∧ Chg [] w0 w' ∧ w0.heap.size ≤ w'.heap.size) ?_ ?_
          · have hm := hs1215
            refine cW_seq ?_
            refine cW_region ?_
            refine wS_pure 1 [(27, .int .i64 (x1137))] (by kernel_rfl) ?_
            obtain ⟨x1216, hx1217, hm⟩ := bindE hm
            refine wS_idx (d := 28) (T := 77) (A := A0) (n := (l0).length) (cap := cap0) (kd := .i64) (m := x1137) (by kernel_rfl) sl77 (F1140.is hx1217) ?_
            obtain ⟨A1218, cap1219, hc1221, F1220, K1222⟩ := SlR.row F1140 hx1217
            refine wS_load1 (d := 29) (T := 75) (ad := (elA A0 1 (x1137) 0)) (v := .slice A1218 (x1216).length cap1219) (by kernel_rfl) vt75 hc1221 ?_
            refine wS_pure 2 [(8, .slice A1218 (x1216).length cap1219), (7, .int .i64 (x1137))] (by kernel_rfl) ?_
            refine wS_end (by rfl) ?_
            refine eX_then ?_
            refine cW_seq ?_
            refine cW_region ?_
            refine wS_pure 2 [(31, .int .i64 (x1137)), (30, .slice A12 (l1138).length cap13)] (by kernel_rfl) ?_
            obtain ⟨x1224, hx1225, hm⟩ := bindE hm
            refine wS_idx (d := 32) (T := 75) (A := A12) (n := (l1138).length) (cap := cap13) (kd := .i64) (m := x1137) (by kernel_rfl) sl75 ((F1141.sl encI_ok).is hx1225) ?_
            refine wS_load1 (d := 33) (T := 3) (ad := (elA A12 1 (x1137) 0)) (v := .int .i64 (x1224)) (by kernel_rfl) vt3 (Sl.cell (F1141.sl encI_ok) hx1225 0 (by rfl)) ?_
            refine wS_pure 2 [(35, .bool (decide (x1224 < 0))), (34, .bool (decide (x1224 < 0)))] (by kernel_rfl) ?_
            refine wS_bool (decide (x1224 < 0)) (fun hb1226 => ?_) (fun hb1226 => ?_)
            · have hm := condT hb1226 hm
              rewrite [hb1226]
              refine wS_pure 2 [(37, .slice A1133 (l1132).length cap1134), (36, .slice A1218 (x1216).length cap1219)] (by kernel_rfl) ?_
              obtain ⟨x1227, hx1228, hm⟩ := bindE hm
              refine wS_idx (d := 38) (T := 75) (A := A1133) (n := (l1132).length) (cap := cap1134) (kd := .i64) (m := 0) (by kernel_rfl) sl75 ((F1142.sl encI_ok).is hx1228) ?_
              refine wS_load1 (d := 39) (T := 3) (ad := (elA A1133 1 (0) 0)) (v := .int .i64 (x1227)) (by kernel_rfl) vt3 (Sl.cell (F1142.sl encI_ok) hx1228 0 (by rfl)) ?_
              obtain ⟨y1229, hy1230, hm⟩ := bindE hm
              refine wS_calls (d := 40) (f := 99) (vs := [.slice A1218 (x1216).length cap1219, .int .i64 (x1227)]) (by kernel_rfl) ent99 (c_slices_Contains_int_int hy1230 F1220) ?_
              rintro _ w1231 ⟨rfl, hc1232⟩
              replace F1140 := F1140.chg hc1232 Dj.nil
              replace F1141 := F1141.chg hc1232 Dj.nil
              replace F1142 := F1142.chg hc1232 Dj.nil
              replace F1220 := F1220.chg hc1232 Dj.nil
              replace hB := hB.inS hc1232 inNil
              replace hZ := Nat.le_trans hZ hc1232.size
              refine ⟨.bool (y1229), rfl, ?_⟩
              refine wS_pure 1 [(41, .bool (y1229))] (by kernel_rfl) ?_
              refine wS_end (by rfl) ?_
              refine eX_then ?_
              refine cW_prune [(0, .slice A0 (l0).length cap0), (5, .slice A12 (l1138).length cap13), (6, .slice A1133 (l1132).length cap1134), (7, .int .i64 (x1137)), (23, .slice A0 (l0).length cap0), (24, .int .i64 (((l0).length : Int))), (25, .int .i64 (x1137)), (41, .bool (y1229))] (by kernel_rfl) (by kernel_rfl) (fun a1233 => ?_)
              refine cW_cond (t := y1229) (by kernel_rfl) (fun hb1234 => ?_) (fun hb1234 => ?_)
              · have hm := condT hb1234 hm
                refine cW_seq ?_
                refine cW_region ?_
                refine wS_pure 4 [(45, .slice A1133 (l1132).length cap1134), (44, .slice A12 (l1138).length cap13), (43, .int .i64 (x1137)), (42, .slice A12 (l1138).length cap13)] (by kernel_rfl) ?_
                obtain ⟨x1235, hx1236, hm⟩ := bindE hm
                refine wS_idx (d := 46) (T := 75) (A := A1133) (n := (l1132).length) (cap := cap1134) (kd := .i64) (m := 0) (by kernel_rfl) sl75 ((F1142.sl encI_ok).is hx1236) ?_
                refine wS_load1 (d := 47) (T := 3) (ad := (elA A1133 1 (0) 0)) (v := .int .i64 (x1235)) (by kernel_rfl) vt3 (Sl.cell (F1142.sl encI_ok) hx1236 0 (by rfl)) ?_
                obtain ⟨x1237, hx1238, hm⟩ := bindE hm
                refine wS_idx (d := 48) (T := 75) (A := A12) (n := (l1138).length) (cap := cap13) (kd := .i64) (m := x1235) (by kernel_rfl) sl75 ((F1141.sl encI_ok).is hx1238) ?_
                refine wS_load1 (d := 49) (T := 3) (ad := (elA A12 1 (x1235) 0)) (v := .int .i64 (x1237)) (by kernel_rfl) vt3 (Sl.cell (F1141.sl encI_ok) hx1238 0 (by rfl)) ?_
                refine wS_pure 1 [(50, .int .i64 (wr (x1237 + 1)))] (by kernel_rfl) ?_
                obtain ⟨x1239, hx1240, hm⟩ := bindE hm
                refine wS_idx (d := 51) (T := 75) (A := A12) (n := (l1138).length) (cap := cap13) (kd := .i64) (m := x1137) (by kernel_rfl) sl75 ((F1141.sl encI_ok).is hx1240) ?_
                refine wS_storeEl (x := x1239) (wr (x1237 + 1)) (T := 3) (U := 3) (cap := cap13) (j := 0) (A := A12) (v := .int .i64 (wr (x1237 + 1))) (vs := [.int .i64 (wr (x1237 + 1))]) (m := x1137) (by kernel_rfl) (by rfl) sz3 (by rfl) encI_ok F1141 hx1240 (by simp only [List.length_cons, List.length_nil]; omega) (by rfl) ?_
                intro w1241 F1242 hc1243
                replace F1140 := F1140.chg hc1243 (Dj.of L0 G16)
                replace F1142 := F1142.chg hc1243 (D1144).symm
                replace F1220 := F1220.chg hc1243 (Dj.of L0 G16)
                replace hB := hB.inS hc1243 (inLow G16)
                replace hZ := Nat.le_trans hZ hc1243.size
                clear F1141
                rewrite [show (l1138).length = (l1138.set (Int.toNat x1137) (wr (x1237 + 1))).length from (List.length_set ..).symm]
                refine wS_end (by rfl) ?_
                refine eX_then ?_
                refine cW_region ?_
                refine wS_pure 2 [(53, .int .i64 (x1137)), (52, .slice A1133 (l1132).length cap1134)] (by kernel_rfl) ?_
                refine wS_bs (enc := encI) ([x1137] : List (Int)) [.int .i64 (x1137)] (d := 54) (t := 75) (T := 3) (n := 1) (ps := [(0, .int .i64 (x1137))]) (by kernel_rfl) el75 encI_ok (by rfl) (by omega) (by omega) (by kernel_rfl) (by rfl) ?_
                intro b1244 w1245 G1246 F1247 hc1248
                have D1250 : Dj fp14 [b1244] := Dj.of F1242.low (low1 G1246)
                have D1251 : Dj fp1135 [b1244] := Dj.of F1142.low (low1 G1246)
                replace F1140 := F1140.chg hc1248 Dj.nil
                replace F1242 := F1242.chg hc1248 Dj.nil
                replace F1142 := F1142.chg hc1248 Dj.nil
                replace F1220 := F1220.chg hc1248 Dj.nil
                replace hB := hB.inS hc1248 inNil
                replace G1246 := Nat.le_trans hZ G1246
                replace G1246 := low1 G1246
                replace hZ := Nat.le_trans hZ hc1248.size
                obtain ⟨_, hk1252, hm⟩ := bindE hm
                replace hk1252 := apE hk1252
                refine wS_appendO (enc := encI) (l := (l1132 : List (Int))) (l2 := (([x1137] : List (Int)) : List (Int))) (d := 55) (t := 75) (T := 3) (A := A1133) (A2 := (some ⟨b1244, 0, none⟩)) (cap := cap1134) (cap2 := 1) (by kernel_rfl) el75 encI_ok F1142 (F1247.sl encI_ok) hk1252 ?_
                intro w1253 fp1254 A1255 cap1256 F1257 hc1258 hp1259
                have G1261 := low_ap G1143 hZ hp1259
                have D1262 : Dj fp14 fp1254 := Dj.ap D1144 F1242.low hp1259
                have D1263 : Dj [b1244] fp1254 := Dj.ap (D1251).symm F1247.low hp1259
                replace F1140 := F1140.chg hc1258 (Dj.of L0 G1143)
                replace F1242 := F1242.chg hc1258 D1144
                replace F1220 := F1220.chg hc1258 (Dj.of L0 G1143)
                replace F1247 := F1247.chg hc1258 (D1251).symm
                replace hB := hB.inS hc1258 (inLow G1143)
                replace hZ := Nat.le_trans hZ hc1258.size
                refine wS_pure 1 [(6, .slice A1255 (l1132 ++ (([x1137] : List (Int)))).length cap1256)] (by kernel_rfl) ?_
                refine wS_end (by rfl) ?_
                have hq : (some ((l1132 ++ (([x1137] : List (Int))), l1138.set (Int.toNat x1137) (wr (x1237 + 1)))) : Option ((List (Int)) × (List (Int)))) = some _ := hm
                replace hq := someE hq
                subst hq
                exact eX_J (fun hst => ⟨l1132 ++ (([x1137] : List (Int))), A1255, cap1256, fp1254, l1138.set (Int.toNat x1137) (wr (x1237 + 1)), rfl, Fr.of hst (by kernel_rfl), F1140, F1242, F1257, G1261, D1262, hB, hZ⟩)
              · have hm := condF hb1234 hm
                refine cW_skip ?_
                have hq : (some ((l1132, l1138)) : Option ((List (Int)) × (List (Int)))) = some _ := hm
                replace hq := someE hq
                subst hq
                exact eX_J (fun hst => ⟨l1132, A1133, cap1134, fp1135, l1138, rfl, Fr.of hst (by kernel_rfl), F1140, F1141, F1142, G1143, D1144, hB, hZ⟩)
            · have hm := condF hb1226 hm
              rewrite [hb1226]
              refine wS_pure 6 [(41, .bool (false)), (40, undef), (39, undef), (38, undef), (37, undef), (36, undef)] (by kernel_rfl) ?_
              refine wS_end (by rfl) ?_
              refine eX_then ?_
              refine cW_prune [(0, .slice A0 (l0).length cap0), (5, .slice A12 (l1138).length cap13), (6, .slice A1133 (l1132).length cap1134), (7, .int .i64 (x1137)), (23, .slice A0 (l0).length cap0), (24, .int .i64 (((l0).length : Int))), (25, .int .i64 (x1137)), (41, .bool (false))] (by kernel_rfl) (by kernel_rfl) (fun a1264 => ?_)
              refine cW_cond_f (by kernel_rfl) ?_
              refine cW_skip ?_
              have hq : (some ((l1132, l1138)) : Option ((List (Int)) × (List (Int)))) = some _ := hm
              replace hq := someE hq
              subst hq
              exact eX_J (fun hst => ⟨l1132, A1133, cap1134, fp1135, l1138, rfl, Fr.of hst (by kernel_rfl), F1140, F1141, F1142, G1143, D1144, hB, hZ⟩)
          · rintro a' w1201 ⟨l1202, A1203, cap1204, fp1205, l1207, hJ, hF1208, F1209, F1210, F1211, G1212, D1213, hB, hZ⟩
            subst hJ
            refine Fr.goX hF1208 (by kernel_rfl) ?_
            refine eX_block ?_
            refine eX_then ?_
            refine cW_region ?_
            refine wS_pure 2 [(25, .int .i64 (wr (x1137 + 1))), (56, .int .i64 (wr (x1137 + 1)))] (by kernel_rfl) ?_
            refine wS_end (by rfl) ?_
            have hq : (some (Ctl.next ((l1202, wr (x1137 + 1), l1207))) : Option (Ctl ((List (Int)) × Int × (List (Int))) ((List (Int)) × (List (Int))))) = some _ := hm
            replace hq := someE hq
            subst hq
            exact eX_next hx1150 (fun hst => ⟨l1202, A1203, cap1204, fp1205, wr (x1137 + 1), l1207, rfl, Fr.of hst (by kernel_rfl), F1209, F1210, F1211, G1212, D1213, hB, hZ⟩)
        · have hm := condF hb1151 hm
          refine cW_exit ?_
          refine eX_then_exit ?_
          have hq : (some (Ctl.out ((l1132, l1138))) : Option (Ctl ((List (Int)) × Int × (List (Int))) ((List (Int)) × (List (Int))))) = some _ := hm
          replace hq := someE hq
          subst hq
          refine eX_outX hx1150 (fun hr1265 => ?_)
          replace hr1265 := hr1265.symm
          subst hr1265
          refine eX_block_hit ?_
          exact eX_J (fun hst => ⟨l1132, A1133, cap1134, fp1135, l1138, rfl, Fr.of hst (by kernel_rfl), F1140, F1141, F1142, G1143, D1144, hB, hZ⟩)
      · rintro a' w1118 ⟨l1119, A1120, cap1121, fp1122, l1124, hJ, hF1125, F1126, F1127, F1128, G1129, D1130, hB, hZ⟩
        subst hJ
        refine Fr.goX hF1125 (by kernel_rfl) ?_
        refine eX_block ?_
        refine eX_then ?_
        refine cW_region ?_
        refine wS_pure 1 [(21, .slice A1120 (l1119).length cap1121)] (by kernel_rfl) ?_
        obtain ⟨y1266, hy1267, hm⟩ := bindE hm
        refine wS_cutO (k := 1) (enc := encI) (U := 3) (l := l1119) (d := 22) (T := 75) (A := A1120) (cap := cap1121) (lo := 1) (by kernel_rfl) sl75 encI_ok F1128 hy1267 ?_
        intro A1268 cap1269 F1270
        refine wS_pure 1 [(6, .slice A1268 (l1119.drop (Int.toNat 1)).length cap1269)] (by kernel_rfl) ?_
        refine wS_end (by rfl) ?_
        have hq : (some (Ctl.next ((l1119.drop (Int.toNat 1), l1124))) : Option (Ctl ((List (Int)) × (List (Int))) ((List (Int))))) = some _ := hm
        replace hq := someE hq
        subst hq
        exact eX_next hx871 (fun hst => ⟨l1119.drop (Int.toNat 1), A1268, cap1269, fp1122, l1124, rfl, Fr.of hst (by kernel_rfl), F1126, F1127, F1270, G1129, D1130, hB, hZ⟩)
    · have hm := condF hb872 hm
      refine cW_exit ?_
      refine eX_then_exit ?_
      have hq : (some (Ctl.out l859) : Option (Ctl ((List (Int)) × (List (Int))) ((List (Int))))) = some _ := hm
      replace hq := someE hq
      subst hq
      refine eX_outX hx871 (fun hr1272 => ?_)
      replace hr1272 := hr1272.symm
      subst hr1272
      refine eX_block_hit ?_
      exact eX_J (fun hst => ⟨l859, rfl, Fr.of hst (by kernel_rfl), F862, hB, hZ⟩)
  · rintro a' w849 ⟨l850, hJ, hF851, F852, hB, hZ⟩
    subst hJ
    refine Fr.goX hF851 (by kernel_rfl) ?_
    refine eX_then ?_
    refine cW_seq ?_
    refine cW_region ?_
    refine wS_pure 2 [(4, .slice A12 (l850).length cap13), (57, .slice A12 (l850).length cap13)] (by kernel_rfl) ?_
    refine wS_end (by rfl) ?_
    refine eX_then ?_
    refine cW_ret ?_
    have hq : (some l850 : Option ((List (Int)))) = some _ := hm
    replace hq := someE hq
    subst hq
    refine eX_ret (vs := [.slice A12 (l850).length cap13]) [.tmp 4] (by rfl) ⟨by (show lkE _ _ _ = _); kernel_rfl, trivial⟩ ?_
    exact ⟨A12, cap13, fp14, rfl, F852, G16, hB⟩

end Go.Proofs.Ytngnljnfbfgfeaa
