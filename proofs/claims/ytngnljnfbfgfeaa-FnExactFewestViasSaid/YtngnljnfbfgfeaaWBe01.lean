/- Printed walks: impl.in, cmp.isNaN[int64], cmp.Compare[int64], slices.Compare[[]int64,int64], impl.ValidWiring$1, impl.ValidWiring$2, (*impl.Wiring).pairsOk, slices.IndexFunc[[][]int64,[]int64], slices.ContainsFunc[[][]int64,[]int64], slices.IndexFunc[[]int64,int64], slices.ContainsFunc[[]int64,int64], impl.ValidWiring, (*impl.Wiring).crossed, (*impl.Wiring).cost, (*impl.Wiring).best$1$1, slices.IndexFunc[[]int,int], slices.ContainsFunc[[]int,int]. -/
import Derived.Test.YtngnljnfbfgfeaaProg
import Derived.Test.YtngnljnfbfgfeaaMod
import Derived.Test.YtngnljnfbfgfeaaEqs
import Derived.Test.YtngnljnfbfgfeaaSrtC
set_option linter.unusedSimpArgs false
set_option linter.unusedVariables false
namespace Go.Proofs.Ytngnljnfbfgfeaa
open Go.RowKit
attribute [local irreducible] wS cW eX wH

theorem ent57 : Ent Try.prog 57 := fun _ => by kernel_rfl
theorem ent58 : Ent Try.prog 58 := fun _ => by kernel_rfl
theorem ent59 : Ent Try.prog 59 := fun _ => by kernel_rfl
theorem ent60 : Ent Try.prog 60 := fun _ => by kernel_rfl
theorem ent61 : Ent Try.prog 61 := fun _ => by kernel_rfl
theorem ent62 : Ent Try.prog 62 := fun _ => by kernel_rfl
theorem ent94 : Ent Try.prog 94 := fun _ => by kernel_rfl
theorem ent95 : Ent Try.prog 95 := fun _ => by kernel_rfl
theorem ent100 : Ent Try.prog 100 := fun _ => by kernel_rfl
theorem ent101 : Ent Try.prog 101 := fun _ => by kernel_rfl
theorem ent102 : Ent Try.prog 102 := fun _ => by kernel_rfl
theorem ent114 : Ent Try.prog 114 := fun _ => by kernel_rfl
theorem ent127 : Ent Try.prog 127 := fun _ => by kernel_rfl
theorem ent147 : Ent Try.prog 147 := fun _ => by kernel_rfl
theorem vt2 : VarTy Try.prog 2 1 false := ⟨by kernel_rfl, by kernel_rfl⟩
theorem vt3 : VarTy Try.prog 3 1 false := ⟨by kernel_rfl, by kernel_rfl⟩
theorem vt24 : VarTy Try.prog 24 1 false := ⟨by kernel_rfl, by kernel_rfl⟩
theorem vt25 : VarTy Try.prog 25 1 false := ⟨by kernel_rfl, by kernel_rfl⟩
theorem vt75 : VarTy Try.prog 75 1 false := ⟨by kernel_rfl, by kernel_rfl⟩
theorem sl24 : SlTy Try.prog 24 25 1 := ⟨Try.underlying24, by kernel_rfl⟩
theorem sl25 : SlTy Try.prog 25 2 1 := ⟨Try.underlying25, by kernel_rfl⟩
theorem sl75 : SlTy Try.prog 75 3 1 := ⟨Try.underlying75, by kernel_rfl⟩
theorem sl77 : SlTy Try.prog 77 75 1 := ⟨Try.underlying77, by kernel_rfl⟩
theorem el75 : ElTy Try.prog 75 3 1 (.int .i64 (0)) := ElTy.mk' Try.underlying75 (by kernel_rfl) (by rfl)
theorem el77 : ElTy Try.prog 77 75 1 (.slice none 0 0) := ElTy.mk' Try.underlying77 (by kernel_rfl) (by rfl)
theorem sz75 : pureRun Try.prog (sizeOf 75) = some 1 := by kernel_rfl

set_option maxRecDepth 100000 in
/-- impl.in -/
theorem c_impl_in {w0 : World} {p0 : Int} {p1 : Int} {p2 : Int} {r : (Bool)} (hm : m_impl_in p0 p1 p2 = some r)  :
    Calls Try.prog 57 #[.int .i64 (p0), .int .i64 (p1), .int .i64 (p2)] w0 fun e w' => e = .returned (.bool (r)) ∧ Chg [] w0 w' := by
  have hB : Chg [] w0 w0 := Chg.refl _ _
  have hZ := Nat.le_refl w0.heap.size
  unfold m_impl_in at hm
  refine enterE (N := 15) Try.func57 (by rfl) Try.ntmps57 (by simp) [(0, .int .i64 (p0)), (1, .int .i64 (p1)), (2, .int .i64 (p2))] (by rfl) (by kernel_rfl) (fun a => ?_)
  refine cW_seq ?_
  refine cW_region ?_
  refine wS_pure 1 [(6, .bool (false))] (by kernel_rfl) ?_
  refine wS_end (by rfl) ?_
  refine eX_then ?_
  refine cW_seq ?_
  refine cW_region ?_
  refine wS_pure 4 [(10, .bool (decide (p0 ≥ p1))), (9, .bool (decide (p0 ≥ p1))), (8, .int .i64 (p1)), (7, .int .i64 (p0))] (by kernel_rfl) ?_
  refine wS_bool (decide (p0 ≥ p1)) (fun hb1 => ?_) (fun hb1 => ?_)
  · have hm := condT hb1 hm
    rewrite [hb1]
    refine wS_pure 5 [(6, .bool (decide (p0 ≤ p2))), (14, .bool (decide (p0 ≤ p2))), (13, .bool (decide (p0 ≤ p2))), (12, .int .i64 (p2)), (11, .int .i64 (p0))] (by kernel_rfl) ?_
    refine wS_end (by rfl) ?_
    refine eX_then ?_
    refine cW_ret ?_
    have hq : (some (decide (p0 ≤ p2)) : Option ((Bool))) = some _ := hm
    replace hq := someE hq
    subst hq
    refine eX_ret (vs := [.bool (decide (p0 ≤ p2))]) [.tmp 6] (by rfl) ⟨by (show lkE _ _ _ = _); kernel_rfl, trivial⟩ ?_
    exact ⟨rfl, hB⟩
  · have hm := condF hb1 hm
    rewrite [hb1]
    refine wS_pure 5 [(6, .bool (false)), (14, .bool (false)), (13, undef), (12, undef), (11, undef)] (by kernel_rfl) ?_
    refine wS_end (by rfl) ?_
    refine eX_then ?_
    refine cW_ret ?_
    have hq : (some false : Option ((Bool))) = some _ := hm
    replace hq := someE hq
    subst hq
    refine eX_ret (vs := [.bool (false)]) [.tmp 6] (by rfl) ⟨by (show lkE _ _ _ = _); kernel_rfl, trivial⟩ ?_
    exact ⟨rfl, hB⟩

set_option maxRecDepth 100000 in
/-- cmp.isNaN[int64] -/
theorem c_cmp_isNaN_int64 {w0 : World} {p0 : Int} {r : (Bool)} (hm : m_cmp_isNaN_int64 p0 = some r)  :
    Calls Try.prog 147 #[.int .i64 (p0)] w0 fun e w' => e = .returned (.bool (r)) ∧ Chg [] w0 w' := by
  have hB : Chg [] w0 w0 := Chg.refl _ _
  have hZ := Nat.le_refl w0.heap.size
  unfold m_cmp_isNaN_int64 at hm
  refine enterE (N := 6) Try.func147 (by rfl) Try.ntmps147 (by simp) [(0, .int .i64 (p0))] (by rfl) (by kernel_rfl) (fun a => ?_)
  refine cW_seq ?_
  refine cW_region ?_
  refine wS_pure 1 [(2, .bool (false))] (by kernel_rfl) ?_
  refine wS_end (by rfl) ?_
  refine eX_then ?_
  refine cW_seq ?_
  refine cW_region ?_
  refine wS_pure 4 [(2, .bool (p0 != p0)), (5, .bool (p0 != p0)), (4, .int .i64 (p0)), (3, .int .i64 (p0))] (by kernel_rfl) ?_
  refine wS_end (by rfl) ?_
  refine eX_then ?_
  refine cW_ret ?_
  have hq : (some (p0 != p0) : Option ((Bool))) = some _ := hm
  replace hq := someE hq
  subst hq
  refine eX_ret (vs := [.bool (p0 != p0)]) [.tmp 2] (by rfl) ⟨by (show lkE _ _ _ = _); kernel_rfl, trivial⟩ ?_
  exact ⟨rfl, hB⟩

set_option maxRecDepth 100000 in
/-- cmp.Compare[int64] -/
theorem c_cmp_Compare_int64 {w0 : World} {p0 : Int} {p1 : Int} {r : (Int)} (hm : m_cmp_Compare_int64 p0 p1 = some r)  :
    Calls Try.prog 127 #[.int .i64 (p0), .int .i64 (p1)] w0 fun e w' => e = .returned (.int .i64 (r)) ∧ Chg [] w0 w' := by
  have hB : Chg [] w0 w0 := Chg.refl _ _
  have hZ := Nat.le_refl w0.heap.size
  unfold m_cmp_Compare_int64 at hm
  refine enterE (N := 20) Try.func127 (by rfl) Try.ntmps127 (by simp) [(0, .int .i64 (p0)), (1, .int .i64 (p1))] (by rfl) (by kernel_rfl) (fun a => ?_)
  refine cW_seq ?_
  refine cW_region ?_
  refine wS_pure 1 [(4, .int .i64 (0))] (by kernel_rfl) ?_
  refine wS_end (by rfl) ?_
  refine eX_then ?_
  refine cW_seq ?_
  refine cW_region ?_
  refine wS_pure 1 [(7, .int .i64 (p0))] (by kernel_rfl) ?_
  obtain ⟨y1, hy2, hm⟩ := bindE hm
  refine wS_calls (d := 8) (f := 147) (vs := [.int .i64 (p0)]) (by kernel_rfl) ent147 (c_cmp_isNaN_int64 hy2) ?_
  rintro _ w3 ⟨rfl, hc4⟩
  replace hB := hB.inS hc4 inNil
  replace hZ := Nat.le_trans hZ hc4.size
  refine ⟨.bool (y1), rfl, ?_⟩
  refine wS_pure 1 [(5, .bool (y1))] (by kernel_rfl) ?_
  refine wS_end (by rfl) ?_
  refine eX_then ?_
  refine cW_seq ?_
  refine cW_region ?_
  refine wS_pure 1 [(9, .int .i64 (p1))] (by kernel_rfl) ?_
  obtain ⟨y5, hy6, hm⟩ := bindE hm
  refine wS_calls (d := 10) (f := 147) (vs := [.int .i64 (p1)]) (by kernel_rfl) ent147 (c_cmp_isNaN_int64 hy6) ?_
  rintro _ w7 ⟨rfl, hc8⟩
  replace hB := hB.inS hc8 inNil
  replace hZ := Nat.le_trans hZ hc8.size
  refine ⟨.bool (y5), rfl, ?_⟩
  refine wS_pure 1 [(6, .bool (y5))] (by kernel_rfl) ?_
  refine wS_end (by rfl) ?_
  refine eX_then ?_
  refine cW_seq ?_
  refine cW_seq ?_
  refine cW_region ?_
  refine wS_pure 1 [(11, .bool (y1))] (by kernel_rfl) ?_
  refine wS_end (by rfl) ?_
  refine eX_then ?_
  refine cW_cond (t := y1) (by kernel_rfl) (fun hb9 => ?_) (fun hb9 => ?_)
  · have hm := condT hb9 hm
    refine cW_seq ?_
    refine cW_seq ?_
    refine cW_region ?_
    refine wS_pure 1 [(12, .bool (y5))] (by kernel_rfl) ?_
    refine wS_end (by rfl) ?_
    refine eX_then ?_
    refine cW_cond (t := y5) (by kernel_rfl) (fun hb10 => ?_) (fun hb10 => ?_)
    · have hm := condT hb10 hm
      refine cW_seq ?_
      refine cW_region ?_
      refine wS_pure 1 [(4, .int .i64 (0))] (by kernel_rfl) ?_
      refine wS_end (by rfl) ?_
      refine eX_then ?_
      refine cW_ret ?_
      refine eX_then_ret ?_
      refine eX_then_ret ?_
      have hq : (some 0 : Option ((Int))) = some _ := hm
      replace hq := someE hq
      subst hq
      refine eX_ret (vs := [.int .i64 (0)]) [.tmp 4] (by rfl) ⟨by (show lkE _ _ _ = _); kernel_rfl, trivial⟩ ?_
      exact ⟨rfl, hB⟩
    · have hm := condF hb10 hm
      refine cW_skip ?_
      refine eX_then ?_
      refine cW_seq ?_
      refine cW_region ?_
      refine wS_pure 1 [(4, .int .i64 ((-1)))] (by kernel_rfl) ?_
      refine wS_end (by rfl) ?_
      refine eX_then ?_
      refine cW_ret ?_
      refine eX_then_ret ?_
      have hq : (some ((-1)) : Option ((Int))) = some _ := hm
      replace hq := someE hq
      subst hq
      refine eX_ret (vs := [.int .i64 ((-1))]) [.tmp 4] (by rfl) ⟨by (show lkE _ _ _ = _); kernel_rfl, trivial⟩ ?_
      exact ⟨rfl, hB⟩
  · have hm := condF hb9 hm
    refine cW_skip ?_
    refine eX_then ?_
    refine cW_seq ?_
    refine cW_seq ?_
    refine cW_region ?_
    refine wS_pure 1 [(13, .bool (y5))] (by kernel_rfl) ?_
    refine wS_end (by rfl) ?_
    refine eX_then ?_
    refine cW_cond (t := y5) (by kernel_rfl) (fun hb11 => ?_) (fun hb11 => ?_)
    · have hm := condT hb11 hm
      refine cW_seq ?_
      refine cW_region ?_
      refine wS_pure 1 [(4, .int .i64 (1))] (by kernel_rfl) ?_
      refine wS_end (by rfl) ?_
      refine eX_then ?_
      refine cW_ret ?_
      refine eX_then_ret ?_
      have hq : (some 1 : Option ((Int))) = some _ := hm
      replace hq := someE hq
      subst hq
      refine eX_ret (vs := [.int .i64 (1)]) [.tmp 4] (by rfl) ⟨by (show lkE _ _ _ = _); kernel_rfl, trivial⟩ ?_
      exact ⟨rfl, hB⟩
    · have hm := condF hb11 hm
      refine cW_skip ?_
      refine eX_then ?_
      refine cW_seq ?_
      refine cW_seq ?_
      refine cW_region ?_
      refine wS_pure 3 [(16, .bool (decide (p0 < p1))), (15, .int .i64 (p1)), (14, .int .i64 (p0))] (by kernel_rfl) ?_
      refine wS_end (by rfl) ?_
      refine eX_then ?_
      refine cW_cond (t := decide (p0 < p1)) (by kernel_rfl) (fun hb12 => ?_) (fun hb12 => ?_)
      · have hm := condT hb12 hm
        refine cW_seq ?_
        refine cW_region ?_
        refine wS_pure 1 [(4, .int .i64 ((-1)))] (by kernel_rfl) ?_
        refine wS_end (by rfl) ?_
        refine eX_then ?_
        refine cW_ret ?_
        refine eX_then_ret ?_
        have hq : (some ((-1)) : Option ((Int))) = some _ := hm
        replace hq := someE hq
        subst hq
        refine eX_ret (vs := [.int .i64 ((-1))]) [.tmp 4] (by rfl) ⟨by (show lkE _ _ _ = _); kernel_rfl, trivial⟩ ?_
        exact ⟨rfl, hB⟩
      · have hm := condF hb12 hm
        refine cW_skip ?_
        refine eX_then ?_
        refine cW_seq ?_
        refine cW_seq ?_
        refine cW_region ?_
        refine wS_pure 3 [(19, .bool (decide (p0 > p1))), (18, .int .i64 (p1)), (17, .int .i64 (p0))] (by kernel_rfl) ?_
        refine wS_end (by rfl) ?_
        refine eX_then ?_
        refine cW_cond (t := decide (p0 > p1)) (by kernel_rfl) (fun hb13 => ?_) (fun hb13 => ?_)
        · have hm := condT hb13 hm
          refine cW_seq ?_
          refine cW_region ?_
          refine wS_pure 1 [(4, .int .i64 (1))] (by kernel_rfl) ?_
          refine wS_end (by rfl) ?_
          refine eX_then ?_
          refine cW_ret ?_
          refine eX_then_ret ?_
          have hq : (some 1 : Option ((Int))) = some _ := hm
          replace hq := someE hq
          subst hq
          refine eX_ret (vs := [.int .i64 (1)]) [.tmp 4] (by rfl) ⟨by (show lkE _ _ _ = _); kernel_rfl, trivial⟩ ?_
          exact ⟨rfl, hB⟩
        · have hm := condF hb13 hm
          refine cW_skip ?_
          refine eX_then ?_
          refine cW_seq ?_
          refine cW_region ?_
          refine wS_pure 1 [(4, .int .i64 (0))] (by kernel_rfl) ?_
          refine wS_end (by rfl) ?_
          refine eX_then ?_
          refine cW_ret ?_
          have hq : (some 0 : Option ((Int))) = some _ := hm
          replace hq := someE hq
          subst hq
          refine eX_ret (vs := [.int .i64 (0)]) [.tmp 4] (by rfl) ⟨by (show lkE _ _ _ = _); kernel_rfl, trivial⟩ ?_
          exact ⟨rfl, hB⟩

set_option maxRecDepth 100000 in
/-- slices.Compare[[]int64,int64] -/
theorem c_slices_Compare_int64_int64 {w0 : World} {l0 : List (Int)} {A0 : Option Addr} {cap0 : Nat} {fp0 : List Nat} {l1 : List (Int)} {A1 : Option Addr} {cap1 : Nat} {fp1 : List Nat} {r : (Int)} (hm : m_slices_Compare_int64_int64 l0 l1 = some r) (F0 : Sl 1 encI w0 fp0 A0 l0) (F1 : Sl 1 encI w0 fp1 A1 l1) :
    Calls Try.prog 100 #[.slice A0 (l0).length cap0, .slice A1 (l1).length cap1] w0 fun e w' => e = .returned (.int .i64 (r)) ∧ Chg [] w0 w' := by
  have L0 := F0.low
  have L1 := F1.low
  have hB : Chg [] w0 w0 := Chg.refl _ _
  have hZ := Nat.le_refl w0.heap.size
  unfold m_slices_Compare_int64_int64 at hm
  refine enterE (N := 36) Try.func100 (by rfl) Try.ntmps100 (by simp) [(0, .slice A0 (l0).length cap0), (1, .slice A1 (l1).length cap1)] (by rfl) (by kernel_rfl) (fun a => ?_)
  refine cW_seq ?_
  refine cW_region ?_
  refine wS_pure 1 [(4, .int .i64 (0))] (by kernel_rfl) ?_
  refine wS_end (by rfl) ?_
  refine eX_then ?_
  refine cW_seq ?_
  refine cW_seq ?_
  refine cW_region ?_
  refine wS_pure 3 [(11, .int .i64 (0)), (10, .int .i64 (((l0).length : Int))), (9, .slice A0 (l0).length cap0)] (by kernel_rfl) ?_
  refine wS_end (by rfl) ?_
  refine eX_then ?_
  obtain ⟨r43, hr44, hm⟩ := bindE hm
  have hm45 := hm
  refine cW_cut (fun a' w' => Sum.inl (()) = r43 ∧ Fr 36 [(0, .slice A0 (l0).length cap0), (1, .slice A1 (l1).length cap1)] a' ∧ Sl 1 encI w' fp0 A0 l0 ∧ Sl 1 encI w' fp1 A1 l1 ∧ Chg [] w0 w' ∧ w0.heap.size ≤ w'.heap.size) ?_ ?_
  · refine cW_block ?_
    refine cW_loop _ (fun (s46 : Int) a' w' => ∃ x39 : Int, x39 = s46 ∧ Fr 36 [(0, .slice A0 (l0).length cap0), (1, .slice A1 (l1).length cap1), (9, .slice A0 (l0).length cap0), (10, .int .i64 (((l0).length : Int))), (11, .int .i64 (x39))] a' ∧ Sl 1 encI w' fp0 A0 l0 ∧ Sl 1 encI w' fp1 A1 l1 ∧ Chg [] w0 w' ∧ w0.heap.size ≤ w'.heap.size) hr44 (fun hst => ⟨0, rfl, Fr.of hst (by kernel_rfl), F0, F1, hB, hZ⟩) ?_
    rintro _ c47 a' w38 ⟨x39, rfl, hF40, F41, F42, hB, hZ⟩ hx48
    refine Fr.goOn hF40 (by kernel_rfl) ?_
    have hm := hx48
    unfold m_slices_Compare_int64_int64_s1 at hm
    refine cW_seq ?_
    refine cW_region ?_
    refine wS_pure 1 [(12, .bool (decide (x39 < (((l0).length : Int)))))] (by kernel_rfl) ?_
    refine wS_end (by rfl) ?_
    refine eX_then ?_
    refine cW_seq ?_
    refine cW_cond (t := decide (x39 < (((l0).length : Int)))) (by kernel_rfl) (fun hb49 => ?_) (fun hb49 => ?_)
    · have hm := condT hb49 hm
      refine cW_skip ?_
      refine eX_then ?_
      refine cW_seq ?_
      refine cW_block ?_
      refine cW_seq ?_
      refine cW_region ?_
      refine wS_pure 1 [(13, .int .i64 (x39))] (by kernel_rfl) ?_
      obtain ⟨x50, hx51, hm⟩ := bindE hm
      refine wS_idx (d := 14) (T := 25) (A := A0) (n := (l0).length) (cap := cap0) (kd := .i64) (m := x39) (by kernel_rfl) sl25 (F41.is hx51) ?_
      refine wS_load1 (d := 15) (T := 2) (ad := (elA A0 1 (x39) 0)) (v := .int .i64 (x50)) (by kernel_rfl) vt2 (Sl.cell F41 hx51 0 (by rfl)) ?_
      refine wS_pure 2 [(6, .int .i64 (x50)), (5, .int .i64 (x39))] (by kernel_rfl) ?_
      refine wS_end (by rfl) ?_
      refine eX_then ?_
      refine cW_seq ?_
      refine cW_seq ?_
      refine cW_region ?_
      refine wS_pure 4 [(19, .bool (decide (x39 ≥ (((l1).length : Int))))), (18, .int .i64 (((l1).length : Int))), (17, .slice A1 (l1).length cap1), (16, .int .i64 (x39))] (by kernel_rfl) ?_
      refine wS_end (by rfl) ?_
      refine eX_then ?_
      refine cW_cond (t := decide (x39 ≥ (((l1).length : Int)))) (by kernel_rfl) (fun hb52 => ?_) (fun hb52 => ?_)
      · have hm := condT hb52 hm
        refine cW_seq ?_
        refine cW_region ?_
        refine wS_pure 1 [(4, .int .i64 (1))] (by kernel_rfl) ?_
        refine wS_end (by rfl) ?_
        refine eX_then ?_
        refine cW_ret ?_
        refine eX_then_ret ?_
        refine eX_block_ret ?_
        refine eX_then_ret ?_
        have hq : (some (Ctl.out (Sum.inr 1)) : Option (Ctl (Int) (Sum (Unit) ((Int))))) = some _ := hm
        replace hq := someE hq
        subst hq
        refine eX_outR hx48 (fun hr => ?_)
        subst hr
        refine eX_block_ret ?_
        refine eX_then_ret ?_
        refine eX_then_ret ?_
        have hq : (some 1 : Option ((Int))) = some _ := hm45
        replace hq := someE hq
        subst hq
        refine eX_ret (vs := [.int .i64 (1)]) [.tmp 4] (by rfl) ⟨by (show lkE _ _ _ = _); kernel_rfl, trivial⟩ ?_
        exact ⟨rfl, hB⟩
      · have hm := condF hb52 hm
        refine cW_skip ?_
        refine eX_then ?_
        refine cW_seq ?_
        refine cW_region ?_
        refine wS_pure 2 [(21, .int .i64 (x39)), (20, .slice A1 (l1).length cap1)] (by kernel_rfl) ?_
        obtain ⟨x53, hx54, hm⟩ := bindE hm
        refine wS_idx (d := 22) (T := 25) (A := A1) (n := (l1).length) (cap := cap1) (kd := .i64) (m := x39) (by kernel_rfl) sl25 (F42.is hx54) ?_
        refine wS_load1 (d := 23) (T := 2) (ad := (elA A1 1 (x39) 0)) (v := .int .i64 (x53)) (by kernel_rfl) vt2 (Sl.cell F42 hx54 0 (by rfl)) ?_
        refine wS_pure 1 [(7, .int .i64 (x53))] (by kernel_rfl) ?_
        refine wS_end (by rfl) ?_
        refine eX_then ?_
        refine cW_seq ?_
        refine cW_region ?_
        refine wS_pure 2 [(25, .int .i64 (x53)), (24, .int .i64 (x50))] (by kernel_rfl) ?_
        obtain ⟨y55, hy56, hm⟩ := bindE hm
        refine wS_calls (d := 26) (f := 127) (vs := [.int .i64 (x50), .int .i64 (x53)]) (by kernel_rfl) ent127 (c_cmp_Compare_int64 hy56) ?_
        rintro _ w57 ⟨rfl, hc58⟩
        replace F41 := F41.chg hc58 Dj.nil
        replace F42 := F42.chg hc58 Dj.nil
        replace hB := hB.inS hc58 inNil
        replace hZ := Nat.le_trans hZ hc58.size
        refine ⟨.int .i64 (y55), rfl, ?_⟩
        refine wS_pure 1 [(8, .int .i64 (y55))] (by kernel_rfl) ?_
        refine wS_end (by rfl) ?_
        refine eX_then ?_
        refine cW_prune [(0, .slice A0 (l0).length cap0), (1, .slice A1 (l1).length cap1), (8, .int .i64 (y55)), (9, .slice A0 (l0).length cap0), (10, .int .i64 (((l0).length : Int))), (11, .int .i64 (x39))] (by kernel_rfl) (by kernel_rfl) (fun a59 => ?_)
        refine cW_seq ?_
        refine cW_region ?_
        refine wS_pure 2 [(28, .bool (y55 != 0)), (27, .int .i64 (y55))] (by kernel_rfl) ?_
        refine wS_end (by rfl) ?_
        refine eX_then ?_
        refine cW_cond (t := y55 != 0) (by kernel_rfl) (fun hb60 => ?_) (fun hb60 => ?_)
        · have hm := condT hb60 hm
          refine cW_seq ?_
          refine cW_region ?_
          refine wS_pure 2 [(4, .int .i64 (y55)), (29, .int .i64 (y55))] (by kernel_rfl) ?_
          refine wS_end (by rfl) ?_
          refine eX_then ?_
          refine cW_ret ?_
          refine eX_block_ret ?_
          refine eX_then_ret ?_
          have hq : (some (Ctl.out (Sum.inr y55)) : Option (Ctl (Int) (Sum (Unit) ((Int))))) = some _ := hm
          replace hq := someE hq
          subst hq
          refine eX_outR hx48 (fun hr => ?_)
          subst hr
          refine eX_block_ret ?_
          refine eX_then_ret ?_
          refine eX_then_ret ?_
          have hq : (some y55 : Option ((Int))) = some _ := hm45
          replace hq := someE hq
          subst hq
          refine eX_ret (vs := [.int .i64 (y55)]) [.tmp 4] (by rfl) ⟨by (show lkE _ _ _ = _); kernel_rfl, trivial⟩ ?_
          exact ⟨rfl, hB⟩
        · have hm := condF hb60 hm
          refine cW_skip ?_
          refine eX_block ?_
          refine eX_then ?_
          refine cW_region ?_
          refine wS_pure 2 [(11, .int .i64 (wr (x39 + 1))), (30, .int .i64 (wr (x39 + 1)))] (by kernel_rfl) ?_
          refine wS_end (by rfl) ?_
          have hq : (some (Ctl.next (wr (x39 + 1))) : Option (Ctl (Int) (Sum (Unit) ((Int))))) = some _ := hm
          replace hq := someE hq
          subst hq
          exact eX_next hx48 (fun hst => ⟨wr (x39 + 1), rfl, Fr.of hst (by kernel_rfl), F41, F42, hB, hZ⟩)
    · have hm := condF hb49 hm
      refine cW_exit ?_
      refine eX_then_exit ?_
      have hq : (some (Ctl.out (Sum.inl (()))) : Option (Ctl (Int) (Sum (Unit) ((Int))))) = some _ := hm
      replace hq := someE hq
      subst hq
      refine eX_outX hx48 (fun hr61 => ?_)
      replace hr61 := hr61.symm
      subst hr61
      refine eX_block_hit ?_
      exact eX_J (fun hst => ⟨rfl, Fr.of hst (by kernel_rfl), F41, F42, hB, hZ⟩)
  · rintro a' w34 ⟨hJ, hF35, F36, F37, hB, hZ⟩
    subst hJ
    refine Fr.goX hF35 (by kernel_rfl) ?_
    refine eX_then ?_
    refine cW_seq ?_
    refine cW_seq ?_
    refine cW_region ?_
    refine wS_pure 5 [(35, .bool (decide ((((l0).length : Int)) < (((l1).length : Int))))), (34, .int .i64 (((l1).length : Int))), (33, .slice A1 (l1).length cap1), (32, .int .i64 (((l0).length : Int))), (31, .slice A0 (l0).length cap0)] (by kernel_rfl) ?_
    refine wS_end (by rfl) ?_
    refine eX_then ?_
    refine cW_cond (t := decide ((((l0).length : Int)) < (((l1).length : Int)))) (by kernel_rfl) (fun hb62 => ?_) (fun hb62 => ?_)
    · have hm := condT hb62 hm
      refine cW_seq ?_
      refine cW_region ?_
      refine wS_pure 1 [(4, .int .i64 ((-1)))] (by kernel_rfl) ?_
      refine wS_end (by rfl) ?_
      refine eX_then ?_
      refine cW_ret ?_
      refine eX_then_ret ?_
      have hq : (some ((-1)) : Option ((Int))) = some _ := hm
      replace hq := someE hq
      subst hq
      refine eX_ret (vs := [.int .i64 ((-1))]) [.tmp 4] (by rfl) ⟨by (show lkE _ _ _ = _); kernel_rfl, trivial⟩ ?_
      exact ⟨rfl, hB⟩
    · have hm := condF hb62 hm
      refine cW_skip ?_
      refine eX_then ?_
      refine cW_seq ?_
      refine cW_region ?_
      refine wS_pure 1 [(4, .int .i64 (0))] (by kernel_rfl) ?_
      refine wS_end (by rfl) ?_
      refine eX_then ?_
      refine cW_ret ?_
      have hq : (some 0 : Option ((Int))) = some _ := hm
      replace hq := someE hq
      subst hq
      refine eX_ret (vs := [.int .i64 (0)]) [.tmp 4] (by rfl) ⟨by (show lkE _ _ _ = _); kernel_rfl, trivial⟩ ?_
      exact ⟨rfl, hB⟩

set_option maxRecDepth 100000 in
/-- impl.ValidWiring$1 -/
theorem c_impl_ValidWiring_1 {w0 : World} {l0 : List (Int)} {A0 : Option Addr} {cap0 : Nat} {fp0 : List Nat} {r : (Bool)} (hm : m_impl_ValidWiring_1 l0 = some r) (F0 : Sl 1 encI w0 fp0 A0 l0) :
    Calls Try.prog 60 #[.slice A0 (l0).length cap0] w0 fun e w' => e = .returned (.bool (r)) ∧ Chg [] w0 w' := by
  have L0 := F0.low
  have hB : Chg [] w0 w0 := Chg.refl _ _
  have hZ := Nat.le_refl w0.heap.size
  unfold m_impl_ValidWiring_1 at hm
  refine enterE (N := 8) Try.func60 (by rfl) Try.ntmps60 (by simp) [(0, .slice A0 (l0).length cap0)] (by rfl) (by kernel_rfl) (fun a => ?_)
  refine cW_seq ?_
  refine cW_region ?_
  refine wS_pure 1 [(2, .bool (false))] (by kernel_rfl) ?_
  refine wS_end (by rfl) ?_
  refine eX_then ?_
  refine cW_seq ?_
  refine cW_region ?_
  refine wS_pure 1 [(3, .slice A0 (l0).length cap0)] (by kernel_rfl) ?_
  obtain ⟨x2, hx3, hm⟩ := bindE hm
  refine wS_idx (d := 4) (T := 25) (A := A0) (n := (l0).length) (cap := cap0) (kd := .i64) (m := 2) (by kernel_rfl) sl25 (F0.is hx3) ?_
  refine wS_load1 (d := 5) (T := 2) (ad := (elA A0 1 (2) 0)) (v := .int .i64 (x2)) (by kernel_rfl) vt2 (Sl.cell F0 hx3 0 (by rfl)) ?_
  obtain ⟨y4, hy5, hm⟩ := bindE hm
  refine wS_calls (d := 6) (f := 57) (vs := [.int .i64 (x2), .int .i64 (0), .int .i64 (1000)]) (by kernel_rfl) ent57 (c_impl_in hy5) ?_
  rintro _ w6 ⟨rfl, hc7⟩
  replace F0 := F0.chg hc7 Dj.nil
  replace hB := hB.inS hc7 inNil
  replace hZ := Nat.le_trans hZ hc7.size
  refine ⟨.bool (y4), rfl, ?_⟩
  refine wS_pure 2 [(2, .bool (!y4)), (7, .bool (!y4))] (by kernel_rfl) ?_
  refine wS_end (by rfl) ?_
  refine eX_then ?_
  refine cW_ret ?_
  have hq : (some (!y4) : Option ((Bool))) = some _ := hm
  replace hq := someE hq
  subst hq
  refine eX_ret (vs := [.bool (!y4)]) [.tmp 2] (by rfl) ⟨by (show lkE _ _ _ = _); kernel_rfl, trivial⟩ ?_
  exact ⟨rfl, hB⟩

set_option maxRecDepth 100000 in
/-- impl.ValidWiring$2 -/
theorem c_impl_ValidWiring_2 {w0 : World} {p0 : Int} {r : (Bool)} (hm : m_impl_ValidWiring_2 p0 = some r)  :
    Calls Try.prog 62 #[.int .i64 (p0)] w0 fun e w' => e = .returned (.bool (r)) ∧ Chg [] w0 w' := by
  have hB : Chg [] w0 w0 := Chg.refl _ _
  have hZ := Nat.le_refl w0.heap.size
  unfold m_impl_ValidWiring_2 at hm
  refine enterE (N := 6) Try.func62 (by rfl) Try.ntmps62 (by simp) [(0, .int .i64 (p0))] (by rfl) (by kernel_rfl) (fun a => ?_)
  refine cW_seq ?_
  refine cW_region ?_
  refine wS_pure 1 [(2, .bool (false))] (by kernel_rfl) ?_
  refine wS_end (by rfl) ?_
  refine eX_then ?_
  refine cW_seq ?_
  refine cW_region ?_
  refine wS_pure 1 [(3, .int .i64 (p0))] (by kernel_rfl) ?_
  obtain ⟨y1, hy2, hm⟩ := bindE hm
  refine wS_calls (d := 4) (f := 57) (vs := [.int .i64 (p0), .int .i64 ((-1)), .int .i64 (1)]) (by kernel_rfl) ent57 (c_impl_in hy2) ?_
  rintro _ w3 ⟨rfl, hc4⟩
  replace hB := hB.inS hc4 inNil
  replace hZ := Nat.le_trans hZ hc4.size
  refine ⟨.bool (y1), rfl, ?_⟩
  refine wS_pure 2 [(2, .bool (!y1)), (5, .bool (!y1))] (by kernel_rfl) ?_
  refine wS_end (by rfl) ?_
  refine eX_then ?_
  refine cW_ret ?_
  have hq : (some (!y1) : Option ((Bool))) = some _ := hm
  replace hq := someE hq
  subst hq
  refine eX_ret (vs := [.bool (!y1)]) [.tmp 2] (by rfl) ⟨by (show lkE _ _ _ = _); kernel_rfl, trivial⟩ ?_
  exact ⟨rfl, hB⟩

set_option maxRecDepth 100000 in
/-- impl.Wiring).pairsOk -/
theorem c_impl_Wiring_pairsOk_bimplWiring {w0 : World} {q0_0 : Int} {l0_1 : List (List (Int))} {A0_1 : Option Addr} {cap0_1 : Nat} {fp0_1 : List Nat} {l0_2 : List (List (Int))} {A0_2 : Option Addr} {cap0_2 : Nat} {fp0_2 : List Nat} {l0_3 : List (Int)} {A0_3 : Option Addr} {cap0_3 : Nat} {fp0_3 : List Nat} {b0 : Nat} {l1 : List (List (Int))} {A1 : Option Addr} {cap1 : Nat} {fp1 : List Nat} {p2 : Int} {r : (Bool)} (hm : m_impl_Wiring_pairsOk_bimplWiring q0_0 l0_1 l0_2 l0_3 l1 p2 = some r) (F0_1 : SlR 1 encI w0 fp0_1 A0_1 l0_1) (F0_2 : SlR 1 encI w0 fp0_2 A0_2 l0_2) (F0_3 : Sl 1 encI w0 fp0_3 A0_3 l0_3) (F0 : Cl w0 b0 27 [.int .i64 (q0_0), .slice A0_1 (l0_1).length cap0_1, .slice A0_2 (l0_2).length cap0_2, .slice A0_3 (l0_3).length cap0_3]) (F1 : SlR 1 encI w0 fp1 A1 l1) :
    Calls Try.prog 58 #[.pointer (some ⟨b0, 0, none⟩), .slice A1 (l1).length cap1, .int .i64 (p2)] w0 fun e w' => e = .returned (.bool (r)) ∧ Chg [] w0 w' := by
  have L0_1 := F0_1.low
  have L0_2 := F0_2.low
  have L0_3 := F0_3.low
  have L0 := lt1 F0.lt
  have L1 := F1.low
  have hB : Chg [] w0 w0 := Chg.refl _ _
  have hZ := Nat.le_refl w0.heap.size
  unfold m_impl_Wiring_pairsOk_bimplWiring at hm
  refine enterE (N := 63) Try.func58 (by rfl) Try.ntmps58 (by simp) [(0, .pointer (some ⟨b0, 0, none⟩)), (1, .slice A1 (l1).length cap1), (2, .int .i64 (p2))] (by rfl) (by kernel_rfl) (fun a => ?_)
  refine cW_seq ?_
  refine cW_region ?_
  refine wS_pure 1 [(6, .bool (false))] (by kernel_rfl) ?_
  refine wS_end (by rfl) ?_
  refine eX_then ?_
  refine cW_seq ?_
  refine cW_seq ?_
  refine cW_region ?_
  refine wS_pure 3 [(11, .int .i64 (0)), (10, .int .i64 (((l1).length : Int))), (9, .slice A1 (l1).length cap1)] (by kernel_rfl) ?_
  refine wS_end (by rfl) ?_
  refine eX_then ?_
  obtain ⟨r194, hr195, hm⟩ := bindE hm
  have hm196 := hm
  refine cW_cut (fun a' w' => Sum.inl (()) = r194 ∧ Fr 63 [(1, .slice A1 (l1).length cap1)] a' ∧ SlR 1 encI w' fp1 A1 l1 ∧ Chg [] w0 w' ∧ w0.heap.size ≤ w'.heap.size) ?_ ?_
  · refine cW_block ?_
    refine cW_loop _ (fun (s197 : Int) a' w' => ∃ x187 : Int, x187 = s197 ∧ Fr 63 [(0, .pointer (some ⟨b0, 0, none⟩)), (1, .slice A1 (l1).length cap1), (2, .int .i64 (p2)), (9, .slice A1 (l1).length cap1), (10, .int .i64 (((l1).length : Int))), (11, .int .i64 (x187))] a' ∧ SlR 1 encI w' fp0_1 A0_1 l0_1 ∧ SlR 1 encI w' fp0_2 A0_2 l0_2 ∧ Sl 1 encI w' fp0_3 A0_3 l0_3 ∧ Cl w' b0 27 [.int .i64 (q0_0), .slice A0_1 (l0_1).length cap0_1, .slice A0_2 (l0_2).length cap0_2, .slice A0_3 (l0_3).length cap0_3] ∧ SlR 1 encI w' fp1 A1 l1 ∧ Chg [] w0 w' ∧ w0.heap.size ≤ w'.heap.size) hr195 (fun hst => ⟨0, rfl, Fr.of hst (by kernel_rfl), F0_1, F0_2, F0_3, F0, F1, hB, hZ⟩) ?_
    rintro _ c198 a' w186 ⟨x187, rfl, hF188, F189, F190, F191, F192, F193, hB, hZ⟩ hx199
    refine Fr.goOn hF188 (by kernel_rfl) ?_
    have hm := hx199
    unfold m_impl_Wiring_pairsOk_bimplWiring_s1 at hm
    refine cW_seq ?_
    refine cW_region ?_
    refine wS_pure 1 [(12, .bool (decide (x187 < (((l1).length : Int)))))] (by kernel_rfl) ?_
    refine wS_end (by rfl) ?_
    refine eX_then ?_
    refine cW_seq ?_
    refine cW_cond (t := decide (x187 < (((l1).length : Int)))) (by kernel_rfl) (fun hb200 => ?_) (fun hb200 => ?_)
    · have hm := condT hb200 hm
      refine cW_skip ?_
      refine eX_then ?_
      refine cW_seq ?_
      refine cW_block ?_
      refine cW_seq ?_
      refine cW_region ?_
      refine wS_pure 1 [(13, .int .i64 (x187))] (by kernel_rfl) ?_
      obtain ⟨x201, hx202, hm⟩ := bindE hm
      refine wS_idx (d := 14) (T := 24) (A := A1) (n := (l1).length) (cap := cap1) (kd := .i64) (m := x187) (by kernel_rfl) sl24 (F193.is hx202) ?_
      obtain ⟨A203, cap204, hc206, F205, K207⟩ := SlR.row F193 hx202
      refine wS_load1 (d := 15) (T := 25) (ad := (elA A1 1 (x187) 0)) (v := .slice A203 (x201).length cap204) (by kernel_rfl) vt25 hc206 ?_
      refine wS_pure 2 [(8, .slice A203 (x201).length cap204), (7, .int .i64 (x187))] (by kernel_rfl) ?_
      refine wS_end (by rfl) ?_
      refine eX_then ?_
      refine cW_seq ?_
      refine cW_drawnTail [] 39 (by kernel_rfl) (by kernel_rfl) (fun w242 hc243 => ?_)
      replace F189 := F189.chg hc243 Dj.nil
      replace F190 := F190.chg hc243 Dj.nil
      replace F191 := F191.chg hc243 Dj.nil
      replace F192 := F192.chg hc243 notNil
      replace F193 := F193.chg hc243 Dj.nil
      replace F205 := F205.chg hc243 Dj.nil
      replace hB := hB.inS hc243 inNil
      replace hZ := Nat.le_trans hZ hc243.size
      have hS := Chg.refl [] w242
      have Z244 := F189
      have Z245 := F190
      have Z246 := F191
      have Z247 := F192
      have Z248 := F193
      have Z249 := F205
      refine wH_take [0, 1, 2, 3, 4] [4, 3, 2, 1, 0] [(20, .bool ((((x201).length : Int)) != p2)), (19, .bool ((((x201).length : Int)) != p2)), (18, .int .i64 (p2)), (17, .int .i64 (((x201).length : Int))), (16, .slice A203 (x201).length cap204)] (by kernel_rfl) (qT (qT (qB (qT (qL (qB (qT (qT qZ)))))))) (by kernel_rfl) ?_
      refine wH_bool ((((x201).length : Int)) != p2) (fun hb250 => ?_) (fun hb250 => ?_)
      · have hm := condT hb250 hm
        rewrite [hb250]
        refine wH_take [5, 6, 7, 8, 9, 10, 11, 12, 13, 14, 15, 16, 17, 18, 19, 20, 21, 22, 23, 24, 25, 26, 27, 28, 29, 30, 31, 32, 33, 34, 35, 36, 37, 38] [38, 37, 36, 35, 34, 33, 32, 31, 30, 29, 28, 27, 26, 25, 24, 23, 22, 21, 20, 19, 18, 17, 16, 15, 14, 13, 12, 11, 10, 9, 8, 7, 6, 5, 4, 3, 2, 1, 0] [(54, undef), (53, undef), (52, undef), (51, undef), (50, undef), (49, undef), (48, undef), (47, undef), (46, undef), (45, .bool (true)), (44, .bool (true)), (43, undef), (42, undef), (41, undef), (40, undef), (39, undef), (38, undef), (37, undef), (36, undef), (35, .bool (true)), (34, .bool (true)), (33, undef), (32, undef), (31, undef), (30, undef), (29, undef), (28, undef), (27, undef), (26, .bool (true)), (25, .bool (true)), (24, undef), (23, undef), (22, undef), (21, undef)] (by kernel_rfl) (qT (qT (qB (qT (qL (qB (qT (qT qZ)))))))) (by kernel_rfl) ?_
        refine wH_done (by kernel_rfl) ?_
        refine eX_tail ?_
        refine wS_pure 4 [(58, .bool (true)), (57, undef), (56, undef), (55, undef)] (by kernel_rfl) ?_
        refine wS_end (by rfl) ?_
        refine eX_then ?_
        refine cW_prune [(0, .pointer (some ⟨b0, 0, none⟩)), (1, .slice A1 (l1).length cap1), (2, .int .i64 (p2)), (9, .slice A1 (l1).length cap1), (10, .int .i64 (((l1).length : Int))), (11, .int .i64 (x187)), (58, .bool (true))] (by kernel_rfl) (by kernel_rfl) (fun a251 => ?_)
        refine cW_cond_t (by kernel_rfl) ?_
        refine cW_seq ?_
        refine cW_region ?_
        refine wS_pure 1 [(6, .bool (false))] (by kernel_rfl) ?_
        refine wS_end (by rfl) ?_
        refine eX_then ?_
        refine cW_ret ?_
        refine eX_block_ret ?_
        refine eX_then_ret ?_
        have hq : (some (Ctl.out (Sum.inr false)) : Option (Ctl (Int) (Sum (Unit) ((Bool))))) = some _ := hm
        replace hq := someE hq
        subst hq
        refine eX_outR hx199 (fun hr => ?_)
        subst hr
        refine eX_block_ret ?_
        refine eX_then_ret ?_
        refine eX_then_ret ?_
        have hq : (some false : Option ((Bool))) = some _ := hm196
        replace hq := someE hq
        subst hq
        refine eX_ret (vs := [.bool (false)]) [.tmp 6] (by rfl) ⟨by (show lkE _ _ _ = _); kernel_rfl, trivial⟩ ?_
        exact ⟨rfl, hB⟩
      · have hm := condF hb250 hm
        rewrite [hb250]
        refine wH_take [5] [5, 4, 3, 2, 1, 0] [(21, .slice A203 (x201).length cap204)] (by kernel_rfl) (qT (qT (qB (qT (qL (qB (qT (qT qZ)))))))) (by kernel_rfl) ?_
        obtain ⟨x252, hx253, hm⟩ := bindE hm
        refine wH_idx (i := 6) (d := 22) (T := 25) (A := A203) (n := (x201).length) (cap := cap204) (kd := .i64) (m := 0) (by kernel_rfl) (qT (qT (qB (qT (qL (qB (qT (qT qZ)))))))) (by kernel_rfl) (by kernel_rfl) sl25 (F205.is hx253) ?_
        refine wH_load1 (i := 7) (d := 23) (T := 2) (ad := (elA A203 1 (0) 0)) (v := .int .i64 (x252)) (by kernel_rfl) (qT (qT (qB (qT (qL (qB (qT (qT qZ)))))))) (by kernel_rfl) (by kernel_rfl) vt2 (fun W hW => Sl.cell (Z249.chg hW Dj.nil) hx253 0 (by rfl)) ?_
        refine wH_take [8, 9, 10] [10, 9, 8, 7, 6, 5, 4, 3, 2, 1, 0] [(26, .bool (decide (x252 < 0))), (25, .bool (decide (x252 < 0))), (24, .bool (decide (x252 < 0)))] (by kernel_rfl) (qT (qT (qB (qT (qL (qB (qT (qT qZ)))))))) (by kernel_rfl) ?_
        refine wH_bool (decide (x252 < 0)) (fun hb254 => ?_) (fun hb254 => ?_)
        · have hm := condT hb254 hm
          rewrite [hb254]
          refine wH_take [11, 12, 13, 14, 15, 16, 17, 18, 19, 20, 21, 22, 23, 24, 25, 26, 27, 28, 29, 30, 31, 32, 33, 34, 35, 36, 37, 38] [38, 37, 36, 35, 34, 33, 32, 31, 30, 29, 28, 27, 26, 25, 24, 23, 22, 21, 20, 19, 18, 17, 16, 15, 14, 13, 12, 11, 10, 9, 8, 7, 6, 5, 4, 3, 2, 1, 0] [(54, undef), (53, undef), (52, undef), (51, undef), (50, undef), (49, undef), (48, undef), (47, undef), (46, undef), (45, .bool (true)), (44, .bool (true)), (43, undef), (42, undef), (41, undef), (40, undef), (39, undef), (38, undef), (37, undef), (36, undef), (35, .bool (true)), (34, .bool (true)), (33, undef), (32, undef), (31, undef), (30, undef), (29, undef), (28, undef), (27, undef)] (by kernel_rfl) (qT (qT (qB (qT (qL (qB (qT (qT qZ)))))))) (by kernel_rfl) ?_
          refine wH_done (by kernel_rfl) ?_
          refine eX_tail ?_
          refine wS_pure 4 [(58, .bool (true)), (57, undef), (56, undef), (55, undef)] (by kernel_rfl) ?_
          refine wS_end (by rfl) ?_
          refine eX_then ?_
          refine cW_prune [(0, .pointer (some ⟨b0, 0, none⟩)), (1, .slice A1 (l1).length cap1), (2, .int .i64 (p2)), (9, .slice A1 (l1).length cap1), (10, .int .i64 (((l1).length : Int))), (11, .int .i64 (x187)), (58, .bool (true))] (by kernel_rfl) (by kernel_rfl) (fun a255 => ?_)
          refine cW_cond_t (by kernel_rfl) ?_
          refine cW_seq ?_
          refine cW_region ?_
          refine wS_pure 1 [(6, .bool (false))] (by kernel_rfl) ?_
          refine wS_end (by rfl) ?_
          refine eX_then ?_
          refine cW_ret ?_
          refine eX_block_ret ?_
          refine eX_then_ret ?_
          have hq : (some (Ctl.out (Sum.inr false)) : Option (Ctl (Int) (Sum (Unit) ((Bool))))) = some _ := hm
          replace hq := someE hq
          subst hq
          refine eX_outR hx199 (fun hr => ?_)
          subst hr
          refine eX_block_ret ?_
          refine eX_then_ret ?_
          refine eX_then_ret ?_
          have hq : (some false : Option ((Bool))) = some _ := hm196
          replace hq := someE hq
          subst hq
          refine eX_ret (vs := [.bool (false)]) [.tmp 6] (by rfl) ⟨by (show lkE _ _ _ = _); kernel_rfl, trivial⟩ ?_
          exact ⟨rfl, hB⟩
        · have hm := condF hb254 hm
          rewrite [hb254]
          refine wH_take [11] [11, 10, 9, 8, 7, 6, 5, 4, 3, 2, 1, 0] [(27, .slice A203 (x201).length cap204)] (by kernel_rfl) (qT (qT (qB (qT (qL (qB (qT (qT qZ)))))))) (by kernel_rfl) ?_
          obtain ⟨x256, hx257, hm⟩ := bindE hm
          refine wH_idx (i := 12) (d := 28) (T := 25) (A := A203) (n := (x201).length) (cap := cap204) (kd := .i64) (m := 0) (by kernel_rfl) (qT (qT (qB (qT (qL (qB (qT (qT qZ)))))))) (by kernel_rfl) (by kernel_rfl) sl25 (F205.is hx257) ?_
          refine wH_load1 (i := 13) (d := 29) (T := 2) (ad := (elA A203 1 (0) 0)) (v := .int .i64 (x256)) (by kernel_rfl) (qT (qT (qB (qT (qL (qB (qT (qT qZ)))))))) (by kernel_rfl) (by kernel_rfl) vt2 (fun W hW => Sl.cell (Z249.chg hW Dj.nil) hx257 0 (by rfl)) ?_
          refine wH_take [14] [14, 13, 12, 11, 10, 9, 8, 7, 6, 5, 4, 3, 2, 1, 0] [(30, .slice A203 (x201).length cap204)] (by kernel_rfl) (qT (qT (qB (qT (qL (qB (qT (qT qZ)))))))) (by kernel_rfl) ?_
          obtain ⟨x258, hx259, hm⟩ := bindE hm
          refine wH_idx (i := 15) (d := 31) (T := 25) (A := A203) (n := (x201).length) (cap := cap204) (kd := .i64) (m := 1) (by kernel_rfl) (qT (qT (qB (qT (qL (qB (qT (qT qZ)))))))) (by kernel_rfl) (by kernel_rfl) sl25 (F205.is hx259) ?_
          refine wH_load1 (i := 16) (d := 32) (T := 2) (ad := (elA A203 1 (1) 0)) (v := .int .i64 (x258)) (by kernel_rfl) (qT (qT (qB (qT (qL (qB (qT (qT qZ)))))))) (by kernel_rfl) (by kernel_rfl) vt2 (fun W hW => Sl.cell (Z249.chg hW Dj.nil) hx259 0 (by rfl)) ?_
          refine wH_take [17, 18, 19] [19, 18, 17, 16, 15, 14, 13, 12, 11, 10, 9, 8, 7, 6, 5, 4, 3, 2, 1, 0] [(35, .bool (decide (x256 ≥ x258))), (34, .bool (decide (x256 ≥ x258))), (33, .bool (decide (x256 ≥ x258)))] (by kernel_rfl) (qT (qT (qB (qT (qL (qB (qT (qT qZ)))))))) (by kernel_rfl) ?_
          refine wH_bool (decide (x256 ≥ x258)) (fun hb260 => ?_) (fun hb260 => ?_)
          · have hm := condT hb260 hm
            rewrite [hb260]
            refine wH_take [20, 21, 22, 23, 24, 25, 26, 27, 28, 29, 30, 31, 32, 33, 34, 35, 36, 37, 38] [38, 37, 36, 35, 34, 33, 32, 31, 30, 29, 28, 27, 26, 25, 24, 23, 22, 21, 20, 19, 18, 17, 16, 15, 14, 13, 12, 11, 10, 9, 8, 7, 6, 5, 4, 3, 2, 1, 0] [(54, undef), (53, undef), (52, undef), (51, undef), (50, undef), (49, undef), (48, undef), (47, undef), (46, undef), (45, .bool (true)), (44, .bool (true)), (43, undef), (42, undef), (41, undef), (40, undef), (39, undef), (38, undef), (37, undef), (36, undef)] (by kernel_rfl) (qT (qT (qB (qT (qL (qB (qT (qT qZ)))))))) (by kernel_rfl) ?_
            refine wH_done (by kernel_rfl) ?_
            refine eX_tail ?_
            refine wS_pure 4 [(58, .bool (true)), (57, undef), (56, undef), (55, undef)] (by kernel_rfl) ?_
            refine wS_end (by rfl) ?_
            refine eX_then ?_
            refine cW_prune [(0, .pointer (some ⟨b0, 0, none⟩)), (1, .slice A1 (l1).length cap1), (2, .int .i64 (p2)), (9, .slice A1 (l1).length cap1), (10, .int .i64 (((l1).length : Int))), (11, .int .i64 (x187)), (58, .bool (true))] (by kernel_rfl) (by kernel_rfl) (fun a261 => ?_)
            refine cW_cond_t (by kernel_rfl) ?_
            refine cW_seq ?_
            refine cW_region ?_
            refine wS_pure 1 [(6, .bool (false))] (by kernel_rfl) ?_
            refine wS_end (by rfl) ?_
            refine eX_then ?_
            refine cW_ret ?_
            refine eX_block_ret ?_
            refine eX_then_ret ?_
            have hq : (some (Ctl.out (Sum.inr false)) : Option (Ctl (Int) (Sum (Unit) ((Bool))))) = some _ := hm
            replace hq := someE hq
            subst hq
            refine eX_outR hx199 (fun hr => ?_)
            subst hr
            refine eX_block_ret ?_
            refine eX_then_ret ?_
            refine eX_then_ret ?_
            have hq : (some false : Option ((Bool))) = some _ := hm196
            replace hq := someE hq
            subst hq
            refine eX_ret (vs := [.bool (false)]) [.tmp 6] (by rfl) ⟨by (show lkE _ _ _ = _); kernel_rfl, trivial⟩ ?_
            exact ⟨rfl, hB⟩
          · have hm := condF hb260 hm
            rewrite [hb260]
            refine wH_take [20] [20, 19, 18, 17, 16, 15, 14, 13, 12, 11, 10, 9, 8, 7, 6, 5, 4, 3, 2, 1, 0] [(36, .slice A203 (x201).length cap204)] (by kernel_rfl) (qT (qT (qB (qT (qL (qB (qT (qT qZ)))))))) (by kernel_rfl) ?_
            obtain ⟨x262, hx263, hm⟩ := bindE hm
            refine wH_idx (i := 21) (d := 37) (T := 25) (A := A203) (n := (x201).length) (cap := cap204) (kd := .i64) (m := 1) (by kernel_rfl) (qT (qT (qB (qT (qL (qB (qT (qT qZ)))))))) (by kernel_rfl) (by kernel_rfl) sl25 (F205.is hx263) ?_
            refine wH_load1 (i := 22) (d := 38) (T := 2) (ad := (elA A203 1 (1) 0)) (v := .int .i64 (x262)) (by kernel_rfl) (qT (qT (qB (qT (qL (qB (qT (qT qZ)))))))) (by kernel_rfl) (by kernel_rfl) vt2 (fun W hW => Sl.cell (Z249.chg hW Dj.nil) hx263 0 (by rfl)) ?_
            refine wH_take [23, 24, 25] [25, 24, 23, 22, 21, 20, 19, 18, 17, 16, 15, 14, 13, 12, 11, 10, 9, 8, 7, 6, 5, 4, 3, 2, 1, 0] [(41, .pointer (some ⟨b0, 0, none⟩)), (40, .pointer (some ⟨b0, 0, none⟩)), (39, .pointer (some ⟨b0, 0, none⟩))] (by kernel_rfl) (qT (qT (qB (qT (qL (qB (qT (qT qZ)))))))) (by kernel_rfl) ?_
            refine wH_load1 (i := 26) (d := 42) (T := 2) (ad := ⟨b0, 0, none⟩) (v := .int .i64 (q0_0)) (by kernel_rfl) (qT (qT (qB (qT (qL (qB (qT (qT qZ)))))))) (by kernel_rfl) (by kernel_rfl) vt2 (fun W hW => (Z247.chg hW notNil).cell 0) ?_
            refine wH_take [27, 28, 29] [29, 28, 27, 26, 25, 24, 23, 22, 21, 20, 19, 18, 17, 16, 15, 14, 13, 12, 11, 10, 9, 8, 7, 6, 5, 4, 3, 2, 1, 0] [(45, .bool (decide (x262 ≥ q0_0))), (44, .bool (decide (x262 ≥ q0_0))), (43, .bool (decide (x262 ≥ q0_0)))] (by kernel_rfl) (qT (qT (qB (qT (qL (qB (qT (qT qZ)))))))) (by kernel_rfl) ?_
            refine wH_bool (decide (x262 ≥ q0_0)) (fun hb264 => ?_) (fun hb264 => ?_)
            · have hm := condT hb264 hm
              rewrite [hb264]
              refine wH_take [30, 31, 32, 33, 34, 35, 36, 37, 38] [38, 37, 36, 35, 34, 33, 32, 31, 30, 29, 28, 27, 26, 25, 24, 23, 22, 21, 20, 19, 18, 17, 16, 15, 14, 13, 12, 11, 10, 9, 8, 7, 6, 5, 4, 3, 2, 1, 0] [(54, undef), (53, undef), (52, undef), (51, undef), (50, undef), (49, undef), (48, undef), (47, undef), (46, undef)] (by kernel_rfl) (qT (qT (qB (qT (qL (qB (qT (qT qZ)))))))) (by kernel_rfl) ?_
              refine wH_done (by kernel_rfl) ?_
              refine eX_tail ?_
              refine wS_pure 4 [(58, .bool (true)), (57, undef), (56, undef), (55, undef)] (by kernel_rfl) ?_
              refine wS_end (by rfl) ?_
              refine eX_then ?_
              refine cW_prune [(0, .pointer (some ⟨b0, 0, none⟩)), (1, .slice A1 (l1).length cap1), (2, .int .i64 (p2)), (9, .slice A1 (l1).length cap1), (10, .int .i64 (((l1).length : Int))), (11, .int .i64 (x187)), (58, .bool (true))] (by kernel_rfl) (by kernel_rfl) (fun a265 => ?_)
              refine cW_cond_t (by kernel_rfl) ?_
              refine cW_seq ?_
              refine cW_region ?_
              refine wS_pure 1 [(6, .bool (false))] (by kernel_rfl) ?_
              refine wS_end (by rfl) ?_
              refine eX_then ?_
              refine cW_ret ?_
              refine eX_block_ret ?_
              refine eX_then_ret ?_
              have hq : (some (Ctl.out (Sum.inr false)) : Option (Ctl (Int) (Sum (Unit) ((Bool))))) = some _ := hm
              replace hq := someE hq
              subst hq
              refine eX_outR hx199 (fun hr => ?_)
              subst hr
              refine eX_block_ret ?_
              refine eX_then_ret ?_
              refine eX_then_ret ?_
              have hq : (some false : Option ((Bool))) = some _ := hm196
              replace hq := someE hq
              subst hq
              refine eX_ret (vs := [.bool (false)]) [.tmp 6] (by rfl) ⟨by (show lkE _ _ _ = _); kernel_rfl, trivial⟩ ?_
              exact ⟨rfl, hB⟩
            · have hm := condF hb264 hm
              rewrite [hb264]
              refine wH_take [30, 31, 32] [32, 31, 30, 29, 28, 27, 26, 25, 24, 23, 22, 21, 20, 19, 18, 17, 16, 15, 14, 13, 12, 11, 10, 9, 8, 7, 6, 5, 4, 3, 2, 1, 0] [(48, .bool (decide (x187 > 0))), (47, .bool (decide (x187 > 0))), (46, .int .i64 (x187))] (by kernel_rfl) (qT (qT (qB (qT (qL (qB (qT (qT qZ)))))))) (by kernel_rfl) ?_
              refine wH_bool (decide (x187 > 0)) (fun hb266 => ?_) (fun hb266 => ?_)
              · have hm := condT hb266 hm
                rewrite [hb266]
                refine wH_take [33, 34, 35] [35, 34, 33, 32, 31, 30, 29, 28, 27, 26, 25, 24, 23, 22, 21, 20, 19, 18, 17, 16, 15, 14, 13, 12, 11, 10, 9, 8, 7, 6, 5, 4, 3, 2, 1, 0] [(51, .int .i64 (wr (x187 - 1))), (50, .int .i64 (x187)), (49, .slice A1 (l1).length cap1)] (by kernel_rfl) (qT (qT (qB (qT (qL (qB (qT (qT qZ)))))))) (by kernel_rfl) ?_
                obtain ⟨x267, hx268, hm⟩ := bindE hm
                refine wH_idx (i := 36) (d := 52) (T := 24) (A := A1) (n := (l1).length) (cap := cap1) (kd := .i64) (m := wr (x187 - 1)) (by kernel_rfl) (qT (qT (qB (qT (qL (qB (qT (qT qZ)))))))) (by kernel_rfl) (by kernel_rfl) sl24 (F193.is hx268) ?_
                obtain ⟨A269, cap270, hc272, F271, K273⟩ := SlR.row Z248 hx268
                refine wH_load1 (i := 37) (d := 53) (T := 25) (ad := (elA A1 1 (wr (x187 - 1)) 0)) (v := .slice A269 (x267).length cap270) (by kernel_rfl) (qT (qT (qB (qT (qL (qB (qT (qT qZ)))))))) (by kernel_rfl) (by kernel_rfl) vt25 (fun W hW => hW.keep hc272) ?_
                refine wH_take [38] [38, 37, 36, 35, 34, 33, 32, 31, 30, 29, 28, 27, 26, 25, 24, 23, 22, 21, 20, 19, 18, 17, 16, 15, 14, 13, 12, 11, 10, 9, 8, 7, 6, 5, 4, 3, 2, 1, 0] [(54, .slice A203 (x201).length cap204)] (by kernel_rfl) (qT (qT (qB (qT (qL (qB (qT (qT qZ)))))))) (by kernel_rfl) ?_
                refine wH_done (by kernel_rfl) ?_
                refine eX_tail ?_
                obtain ⟨y275, hy276, hm⟩ := bindE hm
                refine wS_calls (d := 55) (f := 100) (vs := [.slice A269 (x267).length cap270, .slice A203 (x201).length cap204]) (by kernel_rfl) ent100 (c_slices_Compare_int64_int64 hy276 F271 F205) ?_
                rintro _ w277 ⟨rfl, hc278⟩
                replace F189 := F189.chg hc278 Dj.nil
                replace F190 := F190.chg hc278 Dj.nil
                replace F191 := F191.chg hc278 Dj.nil
                replace F192 := F192.chg hc278 notNil
                replace F193 := F193.chg hc278 Dj.nil
                replace F205 := F205.chg hc278 Dj.nil
                replace F271 := F271.chg hc278 Dj.nil
                replace hB := hB.inS hc278 inNil
                replace hZ := Nat.le_trans hZ hc278.size
                refine ⟨.int .i64 (y275), rfl, ?_⟩
                refine wS_pure 3 [(58, .bool (decide (y275 ≥ 0))), (57, .bool (decide (y275 ≥ 0))), (56, .bool (decide (y275 ≥ 0)))] (by kernel_rfl) ?_
                refine wS_end (by rfl) ?_
                refine eX_then ?_
                refine cW_prune [(0, .pointer (some ⟨b0, 0, none⟩)), (1, .slice A1 (l1).length cap1), (2, .int .i64 (p2)), (9, .slice A1 (l1).length cap1), (10, .int .i64 (((l1).length : Int))), (11, .int .i64 (x187)), (58, .bool (decide (y275 ≥ 0)))] (by kernel_rfl) (by kernel_rfl) (fun a279 => ?_)
                refine cW_cond (t := decide (y275 ≥ 0)) (by kernel_rfl) (fun hb280 => ?_) (fun hb280 => ?_)
                · have hm := condT hb280 hm
                  refine cW_seq ?_
                  refine cW_region ?_
                  refine wS_pure 1 [(6, .bool (false))] (by kernel_rfl) ?_
                  refine wS_end (by rfl) ?_
                  refine eX_then ?_
                  refine cW_ret ?_
                  refine eX_block_ret ?_
                  refine eX_then_ret ?_
                  have hq : (some (Ctl.out (Sum.inr false)) : Option (Ctl (Int) (Sum (Unit) ((Bool))))) = some _ := hm
                  replace hq := someE hq
                  subst hq
                  refine eX_outR hx199 (fun hr => ?_)
                  subst hr
                  refine eX_block_ret ?_
                  refine eX_then_ret ?_
                  refine eX_then_ret ?_
                  have hq : (some false : Option ((Bool))) = some _ := hm196
                  replace hq := someE hq
                  subst hq
                  refine eX_ret (vs := [.bool (false)]) [.tmp 6] (by rfl) ⟨by (show lkE _ _ _ = _); kernel_rfl, trivial⟩ ?_
                  exact ⟨rfl, hB⟩
                · have hm := condF hb280 hm
                  refine cW_skip ?_
                  refine eX_block ?_
                  refine eX_then ?_
                  refine cW_region ?_
                  refine wS_pure 2 [(11, .int .i64 (wr (x187 + 1))), (59, .int .i64 (wr (x187 + 1)))] (by kernel_rfl) ?_
                  refine wS_end (by rfl) ?_
                  have hq : (some (Ctl.next (wr (x187 + 1))) : Option (Ctl (Int) (Sum (Unit) ((Bool))))) = some _ := hm
                  replace hq := someE hq
                  subst hq
                  exact eX_next hx199 (fun hst => ⟨wr (x187 + 1), rfl, Fr.of hst (by kernel_rfl), F189, F190, F191, F192, F193, hB, hZ⟩)
              · have hm := condF hb266 hm
                rewrite [hb266]
                refine wH_take [33, 34, 35, 36, 37, 38] [38, 37, 36, 35, 34, 33, 32, 31, 30, 29, 28, 27, 26, 25, 24, 23, 22, 21, 20, 19, 18, 17, 16, 15, 14, 13, 12, 11, 10, 9, 8, 7, 6, 5, 4, 3, 2, 1, 0] [(54, undef), (53, undef), (52, undef), (51, undef), (50, undef), (49, undef)] (by kernel_rfl) (qT (qT (qB (qT (qL (qB (qT (qT qZ)))))))) (by kernel_rfl) ?_
                refine wH_done (by kernel_rfl) ?_
                refine eX_tail ?_
                refine wS_pure 4 [(58, .bool (false)), (57, .bool (false)), (56, undef), (55, undef)] (by kernel_rfl) ?_
                refine wS_end (by rfl) ?_
                refine eX_then ?_
                refine cW_prune [(0, .pointer (some ⟨b0, 0, none⟩)), (1, .slice A1 (l1).length cap1), (2, .int .i64 (p2)), (9, .slice A1 (l1).length cap1), (10, .int .i64 (((l1).length : Int))), (11, .int .i64 (x187)), (58, .bool (false))] (by kernel_rfl) (by kernel_rfl) (fun a281 => ?_)
                refine cW_cond_f (by kernel_rfl) ?_
                refine cW_skip ?_
                refine eX_block ?_
                refine eX_then ?_
                refine cW_region ?_
                refine wS_pure 2 [(11, .int .i64 (wr (x187 + 1))), (59, .int .i64 (wr (x187 + 1)))] (by kernel_rfl) ?_
                refine wS_end (by rfl) ?_
                have hq : (some (Ctl.next (wr (x187 + 1))) : Option (Ctl (Int) (Sum (Unit) ((Bool))))) = some _ := hm
                replace hq := someE hq
                subst hq
                exact eX_next hx199 (fun hst => ⟨wr (x187 + 1), rfl, Fr.of hst (by kernel_rfl), F189, F190, F191, F192, F193, hB, hZ⟩)
    · have hm := condF hb200 hm
      refine cW_exit ?_
      refine eX_then_exit ?_
      have hq : (some (Ctl.out (Sum.inl (()))) : Option (Ctl (Int) (Sum (Unit) ((Bool))))) = some _ := hm
      replace hq := someE hq
      subst hq
      refine eX_outX hx199 (fun hr282 => ?_)
      replace hr282 := hr282.symm
      subst hr282
      refine eX_block_hit ?_
      exact eX_J (fun hst => ⟨rfl, Fr.of hst (by kernel_rfl), F193, hB, hZ⟩)
  · rintro a' w183 ⟨hJ, hF184, F185, hB, hZ⟩
    subst hJ
    refine Fr.goX hF184 (by kernel_rfl) ?_
    refine eX_then ?_
    refine cW_seq ?_
    refine cW_region ?_
    refine wS_pure 4 [(6, .bool (decide ((((l1).length : Int)) ≤ 30))), (62, .bool (decide ((((l1).length : Int)) ≤ 30))), (61, .int .i64 (((l1).length : Int))), (60, .slice A1 (l1).length cap1)] (by kernel_rfl) ?_
    refine wS_end (by rfl) ?_
    refine eX_then ?_
    refine cW_ret ?_
    have hq : (some (decide ((((l1).length : Int)) ≤ 30)) : Option ((Bool))) = some _ := hm
    replace hq := someE hq
    subst hq
    refine eX_ret (vs := [.bool (decide ((((l1).length : Int)) ≤ 30))]) [.tmp 6] (by rfl) ⟨by (show lkE _ _ _ = _); kernel_rfl, trivial⟩ ?_
    exact ⟨rfl, hB⟩

set_option maxRecDepth 100000 in
/-- slices.IndexFunc[[][]int64,[]int64] -/
theorem c_slices_IndexFunc_int64_int64_impl_ValidWiring_1 {w0 : World} {l0 : List (List (Int))} {A0 : Option Addr} {cap0 : Nat} {fp0 : List Nat} {r : (Int)} (hm : m_slices_IndexFunc_int64_int64_impl_ValidWiring_1 l0 = some r) (F0 : SlR 1 encI w0 fp0 A0 l0) :
    Calls Try.prog 101 #[.slice A0 (l0).length cap0, .func (.func 60) #[] #[]] w0 fun e w' => e = .returned (.int .i64 (r)) ∧ Chg [] w0 w' := by
  have L0 := F0.low
  have hB : Chg [] w0 w0 := Chg.refl _ _
  have hZ := Nat.le_refl w0.heap.size
  unfold m_slices_IndexFunc_int64_int64_impl_ValidWiring_1 at hm
  refine enterE (N := 19) Try.func101 (by rfl) Try.ntmps101 (by simp) [(0, .slice A0 (l0).length cap0), (1, .func (.func 60) #[] #[])] (by rfl) (by kernel_rfl) (fun a => ?_)
  refine cW_seq ?_
  refine cW_region ?_
  refine wS_pure 1 [(4, .int .i64 (0))] (by kernel_rfl) ?_
  refine wS_end (by rfl) ?_
  refine eX_then ?_
  refine cW_seq ?_
  refine cW_seq ?_
  refine cW_region ?_
  refine wS_pure 3 [(8, .int .i64 (0)), (7, .int .i64 (((l0).length : Int))), (6, .slice A0 (l0).length cap0)] (by kernel_rfl) ?_
  refine wS_end (by rfl) ?_
  refine eX_then ?_
  obtain ⟨r41, hr42, hm⟩ := bindE hm
  have hm43 := hm
  refine cW_cut (fun a' w' => Sum.inl (()) = r41 ∧ Fr 19 [] a' ∧ Chg [] w0 w' ∧ w0.heap.size ≤ w'.heap.size) ?_ ?_
  · refine cW_block ?_
    refine cW_loop _ (fun (s44 : Int) a' w' => ∃ x38 : Int, x38 = s44 ∧ Fr 19 [(0, .slice A0 (l0).length cap0), (1, .func (.func 60) #[] #[]), (7, .int .i64 (((l0).length : Int))), (8, .int .i64 (x38))] a' ∧ SlR 1 encI w' fp0 A0 l0 ∧ Chg [] w0 w' ∧ w0.heap.size ≤ w'.heap.size) hr42 (fun hst => ⟨0, rfl, Fr.of hst (by kernel_rfl), F0, hB, hZ⟩) ?_
    rintro _ c45 a' w37 ⟨x38, rfl, hF39, F40, hB, hZ⟩ hx46
    refine Fr.goOn hF39 (by kernel_rfl) ?_
    have hm := hx46
    unfold m_slices_IndexFunc_int64_int64_impl_ValidWiring_1_s1 at hm
    refine cW_seq ?_
    refine cW_region ?_
    refine wS_pure 1 [(9, .bool (decide (x38 < (((l0).length : Int)))))] (by kernel_rfl) ?_
    refine wS_end (by rfl) ?_
    refine eX_then ?_
    refine cW_seq ?_
    refine cW_cond (t := decide (x38 < (((l0).length : Int)))) (by kernel_rfl) (fun hb47 => ?_) (fun hb47 => ?_)
    · have hm := condT hb47 hm
      refine cW_skip ?_
      refine eX_then ?_
      refine cW_seq ?_
      refine cW_block ?_
      refine cW_seq ?_
      refine cW_region ?_
      refine wS_pure 2 [(5, .int .i64 (x38)), (10, .int .i64 (x38))] (by kernel_rfl) ?_
      refine wS_end (by rfl) ?_
      refine eX_then ?_
      refine cW_seq ?_
      refine cW_region ?_
      refine wS_pure 3 [(13, .int .i64 (x38)), (12, .slice A0 (l0).length cap0), (11, .func (.func 60) #[] #[])] (by kernel_rfl) ?_
      obtain ⟨x48, hx49, hm⟩ := bindE hm
      refine wS_idx (d := 14) (T := 24) (A := A0) (n := (l0).length) (cap := cap0) (kd := .i64) (m := x38) (by kernel_rfl) sl24 (F40.is hx49) ?_
      obtain ⟨A50, cap51, hc53, F52, K54⟩ := SlR.row F40 hx49
      refine wS_load1 (d := 15) (T := 25) (ad := (elA A0 1 (x38) 0)) (v := .slice A50 (x48).length cap51) (by kernel_rfl) vt25 hc53 ?_
      obtain ⟨y56, hy57, hm⟩ := bindE hm
      refine wS_calls (d := 16) (f := 60) (vs := [.slice A50 (x48).length cap51]) (by kernel_rfl) ent60 (c_impl_ValidWiring_1 hy57 F52) ?_
      rintro _ w58 ⟨rfl, hc59⟩
      replace F40 := F40.chg hc59 Dj.nil
      replace F52 := F52.chg hc59 Dj.nil
      replace hB := hB.inS hc59 inNil
      replace hZ := Nat.le_trans hZ hc59.size
      refine ⟨.bool (y56), rfl, ?_⟩
      refine wS_end (by rfl) ?_
      refine eX_then ?_
      refine cW_cond (t := y56) (by kernel_rfl) (fun hb60 => ?_) (fun hb60 => ?_)
      · have hm := condT hb60 hm
        refine cW_seq ?_
        refine cW_region ?_
        refine wS_pure 2 [(4, .int .i64 (x38)), (17, .int .i64 (x38))] (by kernel_rfl) ?_
        refine wS_end (by rfl) ?_
        refine eX_then ?_
        refine cW_ret ?_
        refine eX_block_ret ?_
        refine eX_then_ret ?_
        have hq : (some (Ctl.out (Sum.inr x38)) : Option (Ctl (Int) (Sum (Unit) ((Int))))) = some _ := hm
        replace hq := someE hq
        subst hq
        refine eX_outR hx46 (fun hr => ?_)
        subst hr
        refine eX_block_ret ?_
        refine eX_then_ret ?_
        refine eX_then_ret ?_
        have hq : (some x38 : Option ((Int))) = some _ := hm43
        replace hq := someE hq
        subst hq
        refine eX_ret (vs := [.int .i64 (x38)]) [.tmp 4] (by rfl) ⟨by (show lkE _ _ _ = _); kernel_rfl, trivial⟩ ?_
        exact ⟨rfl, hB⟩
      · have hm := condF hb60 hm
        refine cW_skip ?_
        refine eX_block ?_
        refine eX_then ?_
        refine cW_region ?_
        refine wS_pure 2 [(8, .int .i64 (wr (x38 + 1))), (18, .int .i64 (wr (x38 + 1)))] (by kernel_rfl) ?_
        refine wS_end (by rfl) ?_
        have hq : (some (Ctl.next (wr (x38 + 1))) : Option (Ctl (Int) (Sum (Unit) ((Int))))) = some _ := hm
        replace hq := someE hq
        subst hq
        exact eX_next hx46 (fun hst => ⟨wr (x38 + 1), rfl, Fr.of hst (by kernel_rfl), F40, hB, hZ⟩)
    · have hm := condF hb47 hm
      refine cW_exit ?_
      refine eX_then_exit ?_
      have hq : (some (Ctl.out (Sum.inl (()))) : Option (Ctl (Int) (Sum (Unit) ((Int))))) = some _ := hm
      replace hq := someE hq
      subst hq
      refine eX_outX hx46 (fun hr61 => ?_)
      replace hr61 := hr61.symm
      subst hr61
      refine eX_block_hit ?_
      exact eX_J (fun hst => ⟨rfl, Fr.of hst (by kernel_rfl), hB, hZ⟩)
  · rintro a' w35 ⟨hJ, hF36, hB, hZ⟩
    subst hJ
    refine Fr.goX hF36 (by kernel_rfl) ?_
    refine eX_then ?_
    refine cW_seq ?_
    refine cW_region ?_
    refine wS_pure 1 [(4, .int .i64 ((-1)))] (by kernel_rfl) ?_
    refine wS_end (by rfl) ?_
    refine eX_then ?_
    refine cW_ret ?_
    have hq : (some ((-1)) : Option ((Int))) = some _ := hm
    replace hq := someE hq
    subst hq
    refine eX_ret (vs := [.int .i64 ((-1))]) [.tmp 4] (by rfl) ⟨by (show lkE _ _ _ = _); kernel_rfl, trivial⟩ ?_
    exact ⟨rfl, hB⟩

set_option maxRecDepth 100000 in
/-- slices.ContainsFunc[[][]int64,[]int64] -/
theorem c_slices_ContainsFunc_int64_int64_impl_ValidWiring_1 {w0 : World} {l0 : List (List (Int))} {A0 : Option Addr} {cap0 : Nat} {fp0 : List Nat} {r : (Bool)} (hm : m_slices_ContainsFunc_int64_int64_impl_ValidWiring_1 l0 = some r) (F0 : SlR 1 encI w0 fp0 A0 l0) :
    Calls Try.prog 59 #[.slice A0 (l0).length cap0, .func (.func 60) #[] #[]] w0 fun e w' => e = .returned (.bool (r)) ∧ Chg [] w0 w' := by
  have L0 := F0.low
  have hB : Chg [] w0 w0 := Chg.refl _ _
  have hZ := Nat.le_refl w0.heap.size
  unfold m_slices_ContainsFunc_int64_int64_impl_ValidWiring_1 at hm
  refine enterE (N := 9) Try.func59 (by rfl) Try.ntmps59 (by simp) [(0, .slice A0 (l0).length cap0), (1, .func (.func 60) #[] #[])] (by rfl) (by kernel_rfl) (fun a => ?_)
  refine cW_seq ?_
  refine cW_region ?_
  refine wS_pure 1 [(4, .bool (false))] (by kernel_rfl) ?_
  refine wS_end (by rfl) ?_
  refine eX_then ?_
  refine cW_seq ?_
  refine cW_region ?_
  refine wS_pure 2 [(6, .func (.func 60) #[] #[]), (5, .slice A0 (l0).length cap0)] (by kernel_rfl) ?_
  obtain ⟨y2, hy3, hm⟩ := bindE hm
  refine wS_calls (d := 7) (f := 101) (vs := [.slice A0 (l0).length cap0, .func (.func 60) #[] #[]]) (by kernel_rfl) ent101 (c_slices_IndexFunc_int64_int64_impl_ValidWiring_1 hy3 F0) ?_
  rintro _ w4 ⟨rfl, hc5⟩
  replace F0 := F0.chg hc5 Dj.nil
  replace hB := hB.inS hc5 inNil
  replace hZ := Nat.le_trans hZ hc5.size
  refine ⟨.int .i64 (y2), rfl, ?_⟩
  refine wS_pure 2 [(4, .bool (decide (y2 ≥ 0))), (8, .bool (decide (y2 ≥ 0)))] (by kernel_rfl) ?_
  refine wS_end (by rfl) ?_
  refine eX_then ?_
  refine cW_ret ?_
  have hq : (some (decide (y2 ≥ 0)) : Option ((Bool))) = some _ := hm
  replace hq := someE hq
  subst hq
  refine eX_ret (vs := [.bool (decide (y2 ≥ 0))]) [.tmp 4] (by rfl) ⟨by (show lkE _ _ _ = _); kernel_rfl, trivial⟩ ?_
  exact ⟨rfl, hB⟩

set_option maxRecDepth 100000 in
/-- slices.IndexFunc[[]int64,int64] -/
theorem c_slices_IndexFunc_int64_int64_impl_ValidWiring_2 {w0 : World} {l0 : List (Int)} {A0 : Option Addr} {cap0 : Nat} {fp0 : List Nat} {r : (Int)} (hm : m_slices_IndexFunc_int64_int64_impl_ValidWiring_2 l0 = some r) (F0 : Sl 1 encI w0 fp0 A0 l0) :
    Calls Try.prog 102 #[.slice A0 (l0).length cap0, .func (.func 62) #[] #[]] w0 fun e w' => e = .returned (.int .i64 (r)) ∧ Chg [] w0 w' := by
  have L0 := F0.low
  have hB : Chg [] w0 w0 := Chg.refl _ _
  have hZ := Nat.le_refl w0.heap.size
  unfold m_slices_IndexFunc_int64_int64_impl_ValidWiring_2 at hm
  refine enterE (N := 19) Try.func102 (by rfl) Try.ntmps102 (by simp) [(0, .slice A0 (l0).length cap0), (1, .func (.func 62) #[] #[])] (by rfl) (by kernel_rfl) (fun a => ?_)
  refine cW_seq ?_
  refine cW_region ?_
  refine wS_pure 1 [(4, .int .i64 (0))] (by kernel_rfl) ?_
  refine wS_end (by rfl) ?_
  refine eX_then ?_
  refine cW_seq ?_
  refine cW_seq ?_
  refine cW_region ?_
  refine wS_pure 3 [(8, .int .i64 (0)), (7, .int .i64 (((l0).length : Int))), (6, .slice A0 (l0).length cap0)] (by kernel_rfl) ?_
  refine wS_end (by rfl) ?_
  refine eX_then ?_
  obtain ⟨r29, hr30, hm⟩ := bindE hm
  have hm31 := hm
  refine cW_cut (fun a' w' => Sum.inl (()) = r29 ∧ Fr 19 [] a' ∧ Chg [] w0 w' ∧ w0.heap.size ≤ w'.heap.size) ?_ ?_
  · refine cW_block ?_
    refine cW_loop _ (fun (s32 : Int) a' w' => ∃ x26 : Int, x26 = s32 ∧ Fr 19 [(0, .slice A0 (l0).length cap0), (1, .func (.func 62) #[] #[]), (7, .int .i64 (((l0).length : Int))), (8, .int .i64 (x26))] a' ∧ Sl 1 encI w' fp0 A0 l0 ∧ Chg [] w0 w' ∧ w0.heap.size ≤ w'.heap.size) hr30 (fun hst => ⟨0, rfl, Fr.of hst (by kernel_rfl), F0, hB, hZ⟩) ?_
    rintro _ c33 a' w25 ⟨x26, rfl, hF27, F28, hB, hZ⟩ hx34
    refine Fr.goOn hF27 (by kernel_rfl) ?_
    have hm := hx34
    unfold m_slices_IndexFunc_int64_int64_impl_ValidWiring_2_s1 at hm
    refine cW_seq ?_
    refine cW_region ?_
    refine wS_pure 1 [(9, .bool (decide (x26 < (((l0).length : Int)))))] (by kernel_rfl) ?_
    refine wS_end (by rfl) ?_
    refine eX_then ?_
    refine cW_seq ?_
    refine cW_cond (t := decide (x26 < (((l0).length : Int)))) (by kernel_rfl) (fun hb35 => ?_) (fun hb35 => ?_)
    · have hm := condT hb35 hm
      refine cW_skip ?_
      refine eX_then ?_
      refine cW_seq ?_
      refine cW_block ?_
      refine cW_seq ?_
      refine cW_region ?_
      refine wS_pure 2 [(5, .int .i64 (x26)), (10, .int .i64 (x26))] (by kernel_rfl) ?_
      refine wS_end (by rfl) ?_
      refine eX_then ?_
      refine cW_seq ?_
      refine cW_region ?_
      refine wS_pure 3 [(13, .int .i64 (x26)), (12, .slice A0 (l0).length cap0), (11, .func (.func 62) #[] #[])] (by kernel_rfl) ?_
      obtain ⟨x36, hx37, hm⟩ := bindE hm
      refine wS_idx (d := 14) (T := 25) (A := A0) (n := (l0).length) (cap := cap0) (kd := .i64) (m := x26) (by kernel_rfl) sl25 (F28.is hx37) ?_
      refine wS_load1 (d := 15) (T := 2) (ad := (elA A0 1 (x26) 0)) (v := .int .i64 (x36)) (by kernel_rfl) vt2 (Sl.cell F28 hx37 0 (by rfl)) ?_
      obtain ⟨y38, hy39, hm⟩ := bindE hm
      refine wS_calls (d := 16) (f := 62) (vs := [.int .i64 (x36)]) (by kernel_rfl) ent62 (c_impl_ValidWiring_2 hy39) ?_
      rintro _ w40 ⟨rfl, hc41⟩
      replace F28 := F28.chg hc41 Dj.nil
      replace hB := hB.inS hc41 inNil
      replace hZ := Nat.le_trans hZ hc41.size
      refine ⟨.bool (y38), rfl, ?_⟩
      refine wS_end (by rfl) ?_
      refine eX_then ?_
      refine cW_cond (t := y38) (by kernel_rfl) (fun hb42 => ?_) (fun hb42 => ?_)
      · have hm := condT hb42 hm
        refine cW_seq ?_
        refine cW_region ?_
        refine wS_pure 2 [(4, .int .i64 (x26)), (17, .int .i64 (x26))] (by kernel_rfl) ?_
        refine wS_end (by rfl) ?_
        refine eX_then ?_
        refine cW_ret ?_
        refine eX_block_ret ?_
        refine eX_then_ret ?_
        have hq : (some (Ctl.out (Sum.inr x26)) : Option (Ctl (Int) (Sum (Unit) ((Int))))) = some _ := hm
        replace hq := someE hq
        subst hq
        refine eX_outR hx34 (fun hr => ?_)
        subst hr
        refine eX_block_ret ?_
        refine eX_then_ret ?_
        refine eX_then_ret ?_
        have hq : (some x26 : Option ((Int))) = some _ := hm31
        replace hq := someE hq
        subst hq
        refine eX_ret (vs := [.int .i64 (x26)]) [.tmp 4] (by rfl) ⟨by (show lkE _ _ _ = _); kernel_rfl, trivial⟩ ?_
        exact ⟨rfl, hB⟩
      · have hm := condF hb42 hm
        refine cW_skip ?_
        refine eX_block ?_
        refine eX_then ?_
        refine cW_region ?_
        refine wS_pure 2 [(8, .int .i64 (wr (x26 + 1))), (18, .int .i64 (wr (x26 + 1)))] (by kernel_rfl) ?_
        refine wS_end (by rfl) ?_
        have hq : (some (Ctl.next (wr (x26 + 1))) : Option (Ctl (Int) (Sum (Unit) ((Int))))) = some _ := hm
        replace hq := someE hq
        subst hq
        exact eX_next hx34 (fun hst => ⟨wr (x26 + 1), rfl, Fr.of hst (by kernel_rfl), F28, hB, hZ⟩)
    · have hm := condF hb35 hm
      refine cW_exit ?_
      refine eX_then_exit ?_
      have hq : (some (Ctl.out (Sum.inl (()))) : Option (Ctl (Int) (Sum (Unit) ((Int))))) = some _ := hm
      replace hq := someE hq
      subst hq
      refine eX_outX hx34 (fun hr43 => ?_)
      replace hr43 := hr43.symm
      subst hr43
      refine eX_block_hit ?_
      exact eX_J (fun hst => ⟨rfl, Fr.of hst (by kernel_rfl), hB, hZ⟩)
  · rintro a' w23 ⟨hJ, hF24, hB, hZ⟩
    subst hJ
    refine Fr.goX hF24 (by kernel_rfl) ?_
    refine eX_then ?_
    refine cW_seq ?_
    refine cW_region ?_
    refine wS_pure 1 [(4, .int .i64 ((-1)))] (by kernel_rfl) ?_
    refine wS_end (by rfl) ?_
    refine eX_then ?_
    refine cW_ret ?_
    have hq : (some ((-1)) : Option ((Int))) = some _ := hm
    replace hq := someE hq
    subst hq
    refine eX_ret (vs := [.int .i64 ((-1))]) [.tmp 4] (by rfl) ⟨by (show lkE _ _ _ = _); kernel_rfl, trivial⟩ ?_
    exact ⟨rfl, hB⟩

set_option maxRecDepth 100000 in
/-- slices.ContainsFunc[[]int64,int64] -/
theorem c_slices_ContainsFunc_int64_int64_impl_ValidWiring_2 {w0 : World} {l0 : List (Int)} {A0 : Option Addr} {cap0 : Nat} {fp0 : List Nat} {r : (Bool)} (hm : m_slices_ContainsFunc_int64_int64_impl_ValidWiring_2 l0 = some r) (F0 : Sl 1 encI w0 fp0 A0 l0) :
    Calls Try.prog 61 #[.slice A0 (l0).length cap0, .func (.func 62) #[] #[]] w0 fun e w' => e = .returned (.bool (r)) ∧ Chg [] w0 w' := by
  have L0 := F0.low
  have hB : Chg [] w0 w0 := Chg.refl _ _
  have hZ := Nat.le_refl w0.heap.size
  unfold m_slices_ContainsFunc_int64_int64_impl_ValidWiring_2 at hm
  refine enterE (N := 9) Try.func61 (by rfl) Try.ntmps61 (by simp) [(0, .slice A0 (l0).length cap0), (1, .func (.func 62) #[] #[])] (by rfl) (by kernel_rfl) (fun a => ?_)
  refine cW_seq ?_
  refine cW_region ?_
  refine wS_pure 1 [(4, .bool (false))] (by kernel_rfl) ?_
  refine wS_end (by rfl) ?_
  refine eX_then ?_
  refine cW_seq ?_
  refine cW_region ?_
  refine wS_pure 2 [(6, .func (.func 62) #[] #[]), (5, .slice A0 (l0).length cap0)] (by kernel_rfl) ?_
  obtain ⟨y2, hy3, hm⟩ := bindE hm
  refine wS_calls (d := 7) (f := 102) (vs := [.slice A0 (l0).length cap0, .func (.func 62) #[] #[]]) (by kernel_rfl) ent102 (c_slices_IndexFunc_int64_int64_impl_ValidWiring_2 hy3 F0) ?_
  rintro _ w4 ⟨rfl, hc5⟩
  replace F0 := F0.chg hc5 Dj.nil
  replace hB := hB.inS hc5 inNil
  replace hZ := Nat.le_trans hZ hc5.size
  refine ⟨.int .i64 (y2), rfl, ?_⟩
  refine wS_pure 2 [(4, .bool (decide (y2 ≥ 0))), (8, .bool (decide (y2 ≥ 0)))] (by kernel_rfl) ?_
  refine wS_end (by rfl) ?_
  refine eX_then ?_
  refine cW_ret ?_
  have hq : (some (decide (y2 ≥ 0)) : Option ((Bool))) = some _ := hm
  replace hq := someE hq
  subst hq
  refine eX_ret (vs := [.bool (decide (y2 ≥ 0))]) [.tmp 4] (by rfl) ⟨by (show lkE _ _ _ = _); kernel_rfl, trivial⟩ ?_
  exact ⟨rfl, hB⟩

set_option maxRecDepth 100000 in
/-- impl.ValidWiring -/
theorem c_impl_ValidWiring {w0 : World} {p0_0 : Int} {l0_1 : List (List (Int))} {A0_1 : Option Addr} {cap0_1 : Nat} {fp0_1 : List Nat} {l0_2 : List (List (Int))} {A0_2 : Option Addr} {cap0_2 : Nat} {fp0_2 : List Nat} {l0_3 : List (Int)} {A0_3 : Option Addr} {cap0_3 : Nat} {fp0_3 : List Nat} {r : (Bool)} (hm : m_impl_ValidWiring p0_0 l0_1 l0_2 l0_3 = some r) (F0_1 : SlR 1 encI w0 fp0_1 A0_1 l0_1) (F0_2 : SlR 1 encI w0 fp0_2 A0_2 l0_2) (F0_3 : Sl 1 encI w0 fp0_3 A0_3 l0_3) :
    Calls Try.prog 16 #[.agg #[.int .i64 (p0_0), .slice A0_1 (l0_1).length cap0_1, .slice A0_2 (l0_2).length cap0_2, .slice A0_3 (l0_3).length cap0_3]] w0 fun e w' => e = .returned (.bool (r)) ∧ Chg [] w0 w' := by
  have L0_1 := F0_1.low
  have L0_2 := F0_2.low
  have L0_3 := F0_3.low
  have hB : Chg [] w0 w0 := Chg.refl _ _
  have hZ := Nat.le_refl w0.heap.size
  unfold m_impl_ValidWiring at hm
  refine enterE (N := 34) Try.func16 (by rfl) Try.ntmps16 (by simp) [(0, .agg #[.int .i64 (p0_0), .slice A0_1 (l0_1).length cap0_1, .slice A0_2 (l0_2).length cap0_2, .slice A0_3 (l0_3).length cap0_3])] (by rfl) (by kernel_rfl) (fun a => ?_)
  refine cW_seq ?_
  refine cW_region ?_
  refine wS_box (d := 1) (T := 27) (x := .agg #[.int .i64 (p0_0), .slice A0_1 (l0_1).length cap0_1, .slice A0_2 (l0_2).length cap0_2, .slice A0_3 (l0_3).length cap0_3]) (by kernel_rfl) ?_
  intro b4 w5 G6 F7 hc8
  replace F7 : Cl w5 b4 27 [.int .i64 (p0_0), .slice A0_1 (l0_1).length cap0_1, .slice A0_2 (l0_2).length cap0_2, .slice A0_3 (l0_3).length cap0_3] := F7
  replace F0_1 := F0_1.chg hc8 Dj.nil
  replace F0_2 := F0_2.chg hc8 Dj.nil
  replace F0_3 := F0_3.chg hc8 Dj.nil
  replace hB := hB.inS hc8 inNil
  replace G6 := Nat.le_trans hZ G6
  replace hZ := Nat.le_trans hZ hc8.size
  refine wS_pure 1 [(2, .bool (false))] (by kernel_rfl) ?_
  refine wS_end (by rfl) ?_
  refine eX_then ?_
  refine cW_seq ?_
  refine cW_seq ?_
  refine cW_region ?_
  refine wS_pure 1 [(3, .pointer (some ⟨b4, 0, none⟩))] (by kernel_rfl) ?_
  refine wS_load1 (d := 4) (T := 2) (ad := ⟨b4, 0, none⟩) (v := .int .i64 (p0_0)) (by kernel_rfl) vt2 ((F7).cell 0) ?_
  obtain ⟨y10, hy11, hm⟩ := bindE hm
  refine wS_calls (d := 5) (f := 57) (vs := [.int .i64 (p0_0), .int .i64 (0), .int .i64 (14)]) (by kernel_rfl) ent57 (c_impl_in hy11) ?_
  rintro _ w12 ⟨rfl, hc13⟩
  replace F0_1 := F0_1.chg hc13 Dj.nil
  replace F0_2 := F0_2.chg hc13 Dj.nil
  replace F0_3 := F0_3.chg hc13 Dj.nil
  replace F7 := F7.chg hc13 notNil
  replace hB := hB.inS hc13 inNil
  replace hZ := Nat.le_trans hZ hc13.size
  refine ⟨.bool (y10), rfl, ?_⟩
  refine wS_pure 2 [(7, .bool (!y10)), (6, .bool (!y10))] (by kernel_rfl) ?_
  refine wS_bool (!y10) (fun hb14 => ?_) (fun hb14 => ?_)
  · have hm := condT hb14 hm
    rewrite [hb14]
    refine wS_pure 19 [(26, .bool (true)), (25, undef), (24, undef), (23, undef), (22, undef), (21, .bool (true)), (20, .bool (true)), (19, undef), (18, undef), (17, undef), (16, undef), (15, .bool (true)), (14, .bool (true)), (13, undef), (12, undef), (11, undef), (10, undef), (9, undef), (8, undef)] (by kernel_rfl) ?_
    refine wS_end (by rfl) ?_
    refine eX_then ?_
    refine cW_prune [(1, .pointer (some ⟨b4, 0, none⟩)), (26, .bool (true))] (by kernel_rfl) (by kernel_rfl) (fun a15 => ?_)
    refine cW_cond_t (by kernel_rfl) ?_
    refine cW_seq ?_
    refine cW_region ?_
    refine wS_pure 1 [(2, .bool (false))] (by kernel_rfl) ?_
    refine wS_end (by rfl) ?_
    refine eX_then ?_
    refine cW_ret ?_
    refine eX_then_ret ?_
    have hq : (some false : Option ((Bool))) = some _ := hm
    replace hq := someE hq
    subst hq
    refine eX_ret (vs := [.bool (false)]) [.tmp 2] (by rfl) ⟨by (show lkE _ _ _ = _); kernel_rfl, trivial⟩ ?_
    exact ⟨rfl, hB⟩
  · have hm := condF hb14 hm
    rewrite [hb14]
    refine wS_pure 1 [(8, .pointer (some ⟨b4, 3, none⟩))] (by kernel_rfl) ?_
    refine wS_load1 (d := 9) (T := 25) (ad := ⟨b4, 3, none⟩) (v := .slice A0_3 (l0_3).length cap0_3) (by kernel_rfl) vt25 ((F7).cell 3) ?_
    refine wS_pure 2 [(11, .pointer (some ⟨b4, 0, none⟩)), (10, .int .i64 (((l0_3).length : Int)))] (by kernel_rfl) ?_
    refine wS_load1 (d := 12) (T := 2) (ad := ⟨b4, 0, none⟩) (v := .int .i64 (p0_0)) (by kernel_rfl) vt2 ((F7).cell 0) ?_
    refine wS_pure 3 [(15, .bool ((((l0_3).length : Int)) != p0_0)), (14, .bool ((((l0_3).length : Int)) != p0_0)), (13, .bool ((((l0_3).length : Int)) != p0_0))] (by kernel_rfl) ?_
    refine wS_bool ((((l0_3).length : Int)) != p0_0) (fun hb16 => ?_) (fun hb16 => ?_)
    · have hm := condT hb16 hm
      rewrite [hb16]
      refine wS_pure 11 [(26, .bool (true)), (25, undef), (24, undef), (23, undef), (22, undef), (21, .bool (true)), (20, .bool (true)), (19, undef), (18, undef), (17, undef), (16, undef)] (by kernel_rfl) ?_
      refine wS_end (by rfl) ?_
      refine eX_then ?_
      refine cW_prune [(1, .pointer (some ⟨b4, 0, none⟩)), (26, .bool (true))] (by kernel_rfl) (by kernel_rfl) (fun a17 => ?_)
      refine cW_cond_t (by kernel_rfl) ?_
      refine cW_seq ?_
      refine cW_region ?_
      refine wS_pure 1 [(2, .bool (false))] (by kernel_rfl) ?_
      refine wS_end (by rfl) ?_
      refine eX_then ?_
      refine cW_ret ?_
      refine eX_then_ret ?_
      have hq : (some false : Option ((Bool))) = some _ := hm
      replace hq := someE hq
      subst hq
      refine eX_ret (vs := [.bool (false)]) [.tmp 2] (by rfl) ⟨by (show lkE _ _ _ = _); kernel_rfl, trivial⟩ ?_
      exact ⟨rfl, hB⟩
    · have hm := condF hb16 hm
      rewrite [hb16]
      refine wS_pure 1 [(16, .pointer (some ⟨b4, 1, none⟩))] (by kernel_rfl) ?_
      refine wS_load1 (d := 17) (T := 24) (ad := ⟨b4, 1, none⟩) (v := .slice A0_1 (l0_1).length cap0_1) (by kernel_rfl) vt24 ((F7).cell 1) ?_
      obtain ⟨y18, hy19, hm⟩ := bindE hm
      refine wS_calls (d := 18) (f := 58) (vs := [.pointer (some ⟨b4, 0, none⟩), .slice A0_1 (l0_1).length cap0_1, .int .i64 (2)]) (by kernel_rfl) ent58 (c_impl_Wiring_pairsOk_bimplWiring hy19 F0_1 F0_2 F0_3 F7 F0_1) ?_
      rintro _ w20 ⟨rfl, hc21⟩
      replace F0_1 := F0_1.chg hc21 Dj.nil
      replace F0_2 := F0_2.chg hc21 Dj.nil
      replace F0_3 := F0_3.chg hc21 Dj.nil
      replace F7 := F7.chg hc21 notNil
      replace hB := hB.inS hc21 inNil
      replace hZ := Nat.le_trans hZ hc21.size
      refine ⟨.bool (y18), rfl, ?_⟩
      refine wS_pure 3 [(21, .bool (!y18)), (20, .bool (!y18)), (19, .bool (!y18))] (by kernel_rfl) ?_
      refine wS_bool (!y18) (fun hb22 => ?_) (fun hb22 => ?_)
      · have hm := condT hb22 hm
        rewrite [hb22]
        refine wS_pure 5 [(26, .bool (true)), (25, undef), (24, undef), (23, undef), (22, undef)] (by kernel_rfl) ?_
        refine wS_end (by rfl) ?_
        refine eX_then ?_
        refine cW_prune [(1, .pointer (some ⟨b4, 0, none⟩)), (26, .bool (true))] (by kernel_rfl) (by kernel_rfl) (fun a23 => ?_)
        refine cW_cond_t (by kernel_rfl) ?_
        refine cW_seq ?_
        refine cW_region ?_
        refine wS_pure 1 [(2, .bool (false))] (by kernel_rfl) ?_
        refine wS_end (by rfl) ?_
        refine eX_then ?_
        refine cW_ret ?_
        refine eX_then_ret ?_
        have hq : (some false : Option ((Bool))) = some _ := hm
        replace hq := someE hq
        subst hq
        refine eX_ret (vs := [.bool (false)]) [.tmp 2] (by rfl) ⟨by (show lkE _ _ _ = _); kernel_rfl, trivial⟩ ?_
        exact ⟨rfl, hB⟩
      · have hm := condF hb22 hm
        rewrite [hb22]
        refine wS_pure 1 [(22, .pointer (some ⟨b4, 2, none⟩))] (by kernel_rfl) ?_
        refine wS_load1 (d := 23) (T := 24) (ad := ⟨b4, 2, none⟩) (v := .slice A0_2 (l0_2).length cap0_2) (by kernel_rfl) vt24 ((F7).cell 2) ?_
        obtain ⟨y24, hy25, hm⟩ := bindE hm
        refine wS_calls (d := 24) (f := 58) (vs := [.pointer (some ⟨b4, 0, none⟩), .slice A0_2 (l0_2).length cap0_2, .int .i64 (3)]) (by kernel_rfl) ent58 (c_impl_Wiring_pairsOk_bimplWiring hy25 F0_1 F0_2 F0_3 F7 F0_2) ?_
        rintro _ w26 ⟨rfl, hc27⟩
        replace F0_1 := F0_1.chg hc27 Dj.nil
        replace F0_2 := F0_2.chg hc27 Dj.nil
        replace F0_3 := F0_3.chg hc27 Dj.nil
        replace F7 := F7.chg hc27 notNil
        replace hB := hB.inS hc27 inNil
        replace hZ := Nat.le_trans hZ hc27.size
        refine ⟨.bool (y24), rfl, ?_⟩
        refine wS_pure 2 [(26, .bool (!y24)), (25, .bool (!y24))] (by kernel_rfl) ?_
        refine wS_end (by rfl) ?_
        refine eX_then ?_
        refine cW_prune [(1, .pointer (some ⟨b4, 0, none⟩)), (26, .bool (!y24))] (by kernel_rfl) (by kernel_rfl) (fun a28 => ?_)
        refine cW_cond (t := !y24) (by kernel_rfl) (fun hb29 => ?_) (fun hb29 => ?_)
        · have hm := condT hb29 hm
          refine cW_seq ?_
          refine cW_region ?_
          refine wS_pure 1 [(2, .bool (false))] (by kernel_rfl) ?_
          refine wS_end (by rfl) ?_
          refine eX_then ?_
          refine cW_ret ?_
          refine eX_then_ret ?_
          have hq : (some false : Option ((Bool))) = some _ := hm
          replace hq := someE hq
          subst hq
          refine eX_ret (vs := [.bool (false)]) [.tmp 2] (by rfl) ⟨by (show lkE _ _ _ = _); kernel_rfl, trivial⟩ ?_
          exact ⟨rfl, hB⟩
        · have hm := condF hb29 hm
          refine cW_skip ?_
          refine eX_then ?_
          refine cW_seq ?_
          refine cW_seq ?_
          refine cW_region ?_
          refine wS_pure 1 [(27, .pointer (some ⟨b4, 2, none⟩))] (by kernel_rfl) ?_
          refine wS_load1 (d := 28) (T := 24) (ad := ⟨b4, 2, none⟩) (v := .slice A0_2 (l0_2).length cap0_2) (by kernel_rfl) vt24 ((F7).cell 2) ?_
          obtain ⟨y30, hy31, hm⟩ := bindE hm
          refine wS_calls (d := 29) (f := 59) (vs := [.slice A0_2 (l0_2).length cap0_2, .func (.func 60) #[] #[]]) (by kernel_rfl) ent59 (c_slices_ContainsFunc_int64_int64_impl_ValidWiring_1 hy31 F0_2) ?_
          rintro _ w32 ⟨rfl, hc33⟩
          replace F0_1 := F0_1.chg hc33 Dj.nil
          replace F0_2 := F0_2.chg hc33 Dj.nil
          replace F0_3 := F0_3.chg hc33 Dj.nil
          replace F7 := F7.chg hc33 notNil
          replace hB := hB.inS hc33 inNil
          replace hZ := Nat.le_trans hZ hc33.size
          refine ⟨.bool (y30), rfl, ?_⟩
          refine wS_end (by rfl) ?_
          refine eX_then ?_
          refine cW_cond (t := y30) (by kernel_rfl) (fun hb34 => ?_) (fun hb34 => ?_)
          · have hm := condT hb34 hm
            refine cW_seq ?_
            refine cW_region ?_
            refine wS_pure 1 [(2, .bool (false))] (by kernel_rfl) ?_
            refine wS_end (by rfl) ?_
            refine eX_then ?_
            refine cW_ret ?_
            refine eX_then_ret ?_
            have hq : (some false : Option ((Bool))) = some _ := hm
            replace hq := someE hq
            subst hq
            refine eX_ret (vs := [.bool (false)]) [.tmp 2] (by rfl) ⟨by (show lkE _ _ _ = _); kernel_rfl, trivial⟩ ?_
            exact ⟨rfl, hB⟩
          · have hm := condF hb34 hm
            refine cW_skip ?_
            refine eX_then ?_
            refine cW_seq ?_
            refine cW_region ?_
            refine wS_pure 1 [(30, .pointer (some ⟨b4, 3, none⟩))] (by kernel_rfl) ?_
            refine wS_load1 (d := 31) (T := 25) (ad := ⟨b4, 3, none⟩) (v := .slice A0_3 (l0_3).length cap0_3) (by kernel_rfl) vt25 ((F7).cell 3) ?_
            obtain ⟨y35, hy36, hm⟩ := bindE hm
            refine wS_calls (d := 32) (f := 61) (vs := [.slice A0_3 (l0_3).length cap0_3, .func (.func 62) #[] #[]]) (by kernel_rfl) ent61 (c_slices_ContainsFunc_int64_int64_impl_ValidWiring_2 hy36 F0_3) ?_
            rintro _ w37 ⟨rfl, hc38⟩
            replace F0_1 := F0_1.chg hc38 Dj.nil
            replace F0_2 := F0_2.chg hc38 Dj.nil
            replace F0_3 := F0_3.chg hc38 Dj.nil
            replace F7 := F7.chg hc38 notNil
            replace hB := hB.inS hc38 inNil
            replace hZ := Nat.le_trans hZ hc38.size
            refine ⟨.bool (y35), rfl, ?_⟩
            refine wS_pure 2 [(2, .bool (!y35)), (33, .bool (!y35))] (by kernel_rfl) ?_
            refine wS_end (by rfl) ?_
            refine eX_then ?_
            refine cW_ret ?_
            have hq : (some (!y35) : Option ((Bool))) = some _ := hm
            replace hq := someE hq
            subst hq
            refine eX_ret (vs := [.bool (!y35)]) [.tmp 2] (by rfl) ⟨by (show lkE _ _ _ = _); kernel_rfl, trivial⟩ ?_
            exact ⟨rfl, hB⟩

set_option maxRecDepth 100000 in
/-- impl.Wiring).crossed -/
theorem c_impl_Wiring_crossed_bimplWiring {w0 : World} {q0_0 : Int} {l0_1 : List (List (Int))} {A0_1 : Option Addr} {cap0_1 : Nat} {fp0_1 : List Nat} {l0_2 : List (List (Int))} {A0_2 : Option Addr} {cap0_2 : Nat} {fp0_2 : List Nat} {l0_3 : List (Int)} {A0_3 : Option Addr} {cap0_3 : Nat} {fp0_3 : List Nat} {b0 : Nat} {r : (List (List (Int)))} (hm : m_impl_Wiring_crossed_bimplWiring q0_0 l0_1 l0_2 l0_3 = some r) (F0_1 : SlR 1 encI w0 fp0_1 A0_1 l0_1) (F0_2 : SlR 1 encI w0 fp0_2 A0_2 l0_2) (F0_3 : Sl 1 encI w0 fp0_3 A0_3 l0_3) (F0 : Cl w0 b0 27 [.int .i64 (q0_0), .slice A0_1 (l0_1).length cap0_1, .slice A0_2 (l0_2).length cap0_2, .slice A0_3 (l0_3).length cap0_3]) :
    Calls Try.prog 55 #[.pointer (some ⟨b0, 0, none⟩)] w0 fun e w' => ∃ A100 cap100 fp100 fr100, e = .returned (.slice A100 (r).length cap100) ∧ OwR 1 encI 75 3 w' fp100 fr100 A100 cap100 r ∧ (∀ x ∈ fp100 ++ fr100, w0.heap.size ≤ x) ∧ Chg [] w0 w' := by
  have L0_1 := F0_1.low
  have L0_2 := F0_2.low
  have L0_3 := F0_3.low
  have L0 := lt1 F0.lt
  have hB : Chg [] w0 w0 := Chg.refl _ _
  have hZ := Nat.le_refl w0.heap.size
  unfold m_impl_Wiring_crossed_bimplWiring at hm
  refine enterE (N := 65) Try.func55 (by rfl) Try.ntmps55 (by simp) [(0, .pointer (some ⟨b0, 0, none⟩))] (by rfl) (by kernel_rfl) (fun a => ?_)
  refine cW_seq ?_
  refine cW_region ?_
  refine wS_pure 1 [(2, .slice none 0 0)] (by kernel_rfl) ?_
  refine wS_end (by rfl) ?_
  refine eX_then ?_
  refine cW_seq ?_
  refine cW_region ?_
  refine wS_pure 3 [(10, .pointer (some ⟨b0, 0, none⟩)), (9, .pointer (some ⟨b0, 0, none⟩)), (8, .pointer (some ⟨b0, 0, none⟩))] (by kernel_rfl) ?_
  refine wS_load1 (d := 11) (T := 2) (ad := ⟨b0, 0, none⟩) (v := .int .i64 (q0_0)) (by kernel_rfl) vt2 ((F0).cell 0) ?_
  obtain ⟨_, hk5, hm⟩ := bindE hm
  replace hk5 := mkE hk5
  refine wS_makeR (T2 := 3) (k := 1) (enc := encI) (d := 12) (t := 77) (T := 75) (k1 := .i64) (k2 := .i64) (m := q0_0) (by kernel_rfl) el77 hk5.1 hk5.2 ?_
  intro b6 w7 G8 F9 hc10
  replace F0_1 := F0_1.chg hc10 Dj.nil
  replace F0_2 := F0_2.chg hc10 Dj.nil
  replace F0_3 := F0_3.chg hc10 Dj.nil
  replace F0 := F0.chg hc10 notNil
  replace hB := hB.inS hc10 inNil
  replace G8 := Nat.le_trans hZ G8
  replace G8 := low1 G8
  replace hZ := Nat.le_trans hZ hc10.size
  replace G8 := lowApp G8 lowNil
  refine wS_pure 1 [(3, .slice (some ⟨b6, 0, none⟩) (List.replicate (Int.toNat q0_0) ([] : List (Int))).length (Int.toNat q0_0))] (by kernel_rfl) ?_
  refine wS_end (by rfl) ?_
  refine eX_then ?_
  refine cW_seq ?_
  refine cW_seq ?_
  refine cW_region ?_
  refine wS_pure 3 [(15, .pointer (some ⟨b0, 1, none⟩)), (14, .pointer (some ⟨b0, 0, none⟩)), (13, .pointer (some ⟨b0, 0, none⟩))] (by kernel_rfl) ?_
  refine wS_load1 (d := 16) (T := 24) (ad := ⟨b0, 1, none⟩) (v := .slice A0_1 (l0_1).length cap0_1) (by kernel_rfl) vt24 ((F0).cell 1) ?_
  refine wS_pure 2 [(18, .int .i64 (0)), (17, .int .i64 (((l0_1).length : Int)))] (by kernel_rfl) ?_
  refine wS_end (by rfl) ?_
  refine eX_then ?_
  obtain ⟨r415, hr416, hm⟩ := bindE hm
  have hm417 := hm
  refine cW_cut (fun a' w' => ∃ l394 : List (List (Int)), ∃ A395 : Option Addr, ∃ cap396 : Nat, ∃ fp397 : List Nat, ∃ fr399 : List Nat, l394 = r415 ∧ Fr 65 [(3, .slice A395 (l394).length cap396)] a' ∧ OwR 1 encI 75 3 w' fp397 fr399 A395 cap396 l394 ∧ (∀ x ∈ (fp397 ++ fr399), w0.heap.size ≤ x) ∧ Chg [] w0 w' ∧ w0.heap.size ≤ w'.heap.size) ?_ ?_
  · refine cW_block ?_
    refine cW_loop _ (fun (s418 : (List (List (Int))) × Int) a' w' => ∃ l404 : List (List (Int)), ∃ A405 : Option Addr, ∃ cap406 : Nat, ∃ fp407 : List Nat, ∃ fr409 : List Nat, ∃ x410 : Int, (l404, x410) = s418 ∧ Fr 65 [(3, .slice A405 (l404).length cap406), (16, .slice A0_1 (l0_1).length cap0_1), (17, .int .i64 (((l0_1).length : Int))), (18, .int .i64 (x410))] a' ∧ SlR 1 encI w' fp0_1 A0_1 l0_1 ∧ OwR 1 encI 75 3 w' fp407 fr409 A405 cap406 l404 ∧ (∀ x ∈ (fp407 ++ fr409), w0.heap.size ≤ x) ∧ Chg [] w0 w' ∧ w0.heap.size ≤ w'.heap.size) hr416 (fun hst => ⟨List.replicate (Int.toNat q0_0) ([] : List (Int)), (some ⟨b6, 0, none⟩), (Int.toNat q0_0), [b6], [], 0, rfl, Fr.of hst (by kernel_rfl), F0_1, F9, G8, hB, hZ⟩) ?_
    rintro _ c419 a' w403 ⟨l404, A405, cap406, fp407, fr409, x410, rfl, hF411, F412, F413, G414, hB, hZ⟩ hx420
    refine Fr.goOn hF411 (by kernel_rfl) ?_
    have hm := hx420
    unfold m_impl_Wiring_crossed_bimplWiring_s1 at hm
    refine cW_seq ?_
    refine cW_region ?_
    refine wS_pure 1 [(19, .bool (decide (x410 < (((l0_1).length : Int)))))] (by kernel_rfl) ?_
    refine wS_end (by rfl) ?_
    refine eX_then ?_
    refine cW_seq ?_
    refine cW_cond (t := decide (x410 < (((l0_1).length : Int)))) (by kernel_rfl) (fun hb421 => ?_) (fun hb421 => ?_)
    · have hm := condT hb421 hm
      refine cW_skip ?_
      refine eX_then ?_
      refine cW_seq ?_
      refine cW_block ?_
      refine cW_seq ?_
      refine cW_region ?_
      obtain ⟨x422, hx423, hm⟩ := bindE hm
      refine wS_idx (d := 20) (T := 24) (A := A0_1) (n := (l0_1).length) (cap := cap0_1) (kd := .i64) (m := x410) (by kernel_rfl) sl24 (F412.is hx423) ?_
      obtain ⟨A424, cap425, hc427, F426, K428⟩ := SlR.row F412 hx423
      refine wS_load1 (d := 21) (T := 25) (ad := (elA A0_1 1 (x410) 0)) (v := .slice A424 (x422).length cap425) (by kernel_rfl) vt25 hc427 ?_
      refine wS_pure 1 [(5, .slice A424 (x422).length cap425)] (by kernel_rfl) ?_
      refine wS_end (by rfl) ?_
      refine eX_then ?_
      refine cW_seq ?_
      refine cW_drawnTail fr409 15 (by kernel_rfl) (by kernel_rfl) (fun w475 hc476 => ?_)
      replace F412 := F412.chg hc476 Dj.nil
      replace F413 := F413.chg hc476 Dj.nil
      replace F426 := F426.chg hc476 Dj.nil
      replace hB := hB.inS hc476 inNil
      replace hZ := Nat.le_trans hZ hc476.size
      have hS := Chg.refl fr409 w475
      have Z477 := F412
      have Z478 := F413
      have Z479 := F426
      refine wH_take [0, 1] [1, 0] [(23, .slice A424 (x422).length cap425), (22, .slice A405 (l404).length cap406)] (by kernel_rfl) (qT (qT (qB (qT (qL (qB (qT (qT qZ)))))))) (by kernel_rfl) ?_
      obtain ⟨x480, hx481, hm⟩ := bindE hm
      refine wH_idx (i := 2) (d := 24) (T := 25) (A := A424) (n := (x422).length) (cap := cap425) (kd := .i64) (m := 0) (by kernel_rfl) (qT (qT (qB (qT (qL (qB (qT (qT qZ)))))))) (by kernel_rfl) (by kernel_rfl) sl25 (F426.is hx481) ?_
      refine wH_load1 (i := 3) (d := 25) (T := 2) (ad := (elA A424 1 (0) 0)) (v := .int .i64 (x480)) (by kernel_rfl) (qT (qT (qB (qT (qL (qB (qT (qT qZ)))))))) (by kernel_rfl) (by kernel_rfl) vt2 (fun W hW => Sl.cell (Z479.chg hW (Dj.inr (Dj.of L0_1 G414))) hx481 0 (by rfl)) ?_
      refine wH_take [4, 5] [5, 4, 3, 2, 1, 0] [(27, .slice A424 (x422).length cap425), (26, .slice A405 (l404).length cap406)] (by kernel_rfl) (qT (qT (qB (qT (qL (qB (qT (qT qZ)))))))) (by kernel_rfl) ?_
      refine wH_idx (i := 6) (d := 28) (T := 25) (A := A424) (n := (x422).length) (cap := cap425) (kd := .i64) (m := 0) (by kernel_rfl) (qT (qT (qB (qT (qL (qB (qT (qT qZ)))))))) (by kernel_rfl) (by kernel_rfl) sl25 (F426.is hx481) ?_
      refine wH_load1 (i := 7) (d := 29) (T := 2) (ad := (elA A424 1 (0) 0)) (v := .int .i64 (x480)) (by kernel_rfl) (qT (qT (qB (qT (qL (qB (qT (qT qZ)))))))) (by kernel_rfl) (by kernel_rfl) vt2 (fun W hW => Sl.cell (Z479.chg hW (Dj.inr (Dj.of L0_1 G414))) hx481 0 (by rfl)) ?_
      obtain ⟨x482, hx483, hm⟩ := bindE hm
      refine wH_idx (i := 8) (d := 30) (T := 77) (A := A405) (n := (l404).length) (cap := cap406) (kd := .i64) (m := x480) (by kernel_rfl) (qT (qT (qB (qT (qL (qB (qT (qT qZ)))))))) (by kernel_rfl) (by kernel_rfl) sl77 ((F413.slr encI_ok).is hx483) ?_
      obtain ⟨A484, cap485, hc487, F486, K488⟩ := OwR.rowS Z478 encI_ok hx483
      have G490 := low_inr G414
      have Dm491 := (F413.dj).symm
      refine wH_load1 (i := 9) (d := 31) (T := 75) (ad := (elA A405 1 (x480) 0)) (v := .slice A484 (x482).length cap485) (by kernel_rfl) (qT (qT (qB (qT (qL (qB (qT (qT qZ)))))))) (by kernel_rfl) (by kernel_rfl) vt75 (fun W hW => hc487 W hW) ?_
      refine wH_take [10] [10, 9, 8, 7, 6, 5, 4, 3, 2, 1, 0] [(32, .slice A424 (x422).length cap425)] (by kernel_rfl) (qT (qT (qB (qT (qL (qB (qT (qT qZ)))))))) (by kernel_rfl) ?_
      obtain ⟨x492, hx493, hm⟩ := bindE hm
      refine wH_idx (i := 11) (d := 33) (T := 25) (A := A424) (n := (x422).length) (cap := cap425) (kd := .i64) (m := 1) (by kernel_rfl) (qT (qT (qB (qT (qL (qB (qT (qT qZ)))))))) (by kernel_rfl) (by kernel_rfl) sl25 (F426.is hx493) ?_
      refine wH_load1 (i := 12) (d := 34) (T := 2) (ad := (elA A424 1 (1) 0)) (v := .int .i64 (x492)) (by kernel_rfl) (qT (qT (qB (qT (qL (qB (qT (qT qZ)))))))) (by kernel_rfl) (by kernel_rfl) vt2 (fun W hW => Sl.cell (Z479.chg hW (Dj.inr (Dj.of L0_1 G414))) hx493 0 (by rfl)) ?_
      refine wH_all [13] (by rfl) (by kernel_rfl) (by simp) ⟨⟨by kernel_rfl, ?_⟩, trivial⟩
      refine wS_bs (enc := encI) ([x492] : List (Int)) [.int .i64 (x492)] (d := 35) (t := 75) (T := 3) (n := 1) (ps := [(0, .int .i64 (x492))]) (by kernel_rfl) el75 encI_ok (by rfl) (by omega) (by omega) (by kernel_rfl) (by rfl) ?_
      intro b494 w495 G496 F497 hc498
      have D500 : Dj (fp407 ++ fr409) [b494] := Dj.of F413.low (low1 G496)
      have D501 : Dj fr409 [b494] := Dj.of F486.low (low1 G496)
      replace F412 := F412.chg hc498 Dj.nil
      replace F413 := F413.chg hc498 Dj.nil
      replace F426 := F426.chg hc498 Dj.nil
      replace F486 := F486.chg hc498 Dj.nil
      replace hB := hB.inS hc498 inNil
      have hSz := hS
      replace hS := hS.inS hc498 inNil
      have Gz502 := low1 (Nat.le_trans hSz.size G496)
      replace G496 := Nat.le_trans hZ G496
      replace G496 := low1 G496
      replace hZ := Nat.le_trans hZ hc498.size
      refine wS_end (by kernel_rfl) ?_
      refine eX_KH hS ?_
      refine wH_all [14] (by rfl) (by kernel_rfl) (by simp) ⟨⟨by kernel_rfl, ?_⟩, trivial⟩
      obtain ⟨_, hk503, hm⟩ := bindE hm
      replace hk503 := apE hk503
      refine wS_appH (k := 1) (enc := encI) (ll := l404) (l := (x482 : List (Int))) (l2 := (([x492] : List (Int)) : List (Int))) (d := 36) (t := 75) (T2 := 3) (U := 75) (m := x480) (A := A405) (B := A484) (A2 := (some ⟨b494, 0, none⟩)) (cap := cap406) (c := cap485) (cap2 := 1) (by kernel_rfl) el75 encI_ok F413 hx483 (hc487 _ hS) (F497.sl encI_ok) hk503 ?_
      intro w504 fp505 A506 cap507 F508 hc509 hp510
      have D511 : Dj [b494] (fp407 ++ (fr409 ++ fp505)) := Dj.app (Dj.inl (D500).symm) (Dj.app (Dj.inr (D500).symm) (Dj.ap (Dj.inr (D500).symm) F497.low hp510))
      have G512 := lowApp (low_inl G414) (lowApp (low_inr G414) (low_ap (low_inr G414) hZ hp510))
      replace F412 := F412.chg hc509 (Dj.inr (Dj.of L0_1 G414))
      replace F426 := F426.chg hc509 (Dj.inr (Dj.of L0_1 G414))
      replace F497 := F497.chg hc509 (Dj.inr (D500).symm)
      replace hB := hB.inS hc509 (memS_inr (inLow G414))
      have hSz := hS
      replace hS := hS.trans hc509
      replace hZ := Nat.le_trans hZ hc509.size
      refine wS_end (by kernel_rfl) ?_
      refine eX_KH hS ?_
      refine wH_done (by kernel_rfl) ?_
      refine eX_tail ?_
      refine wS_idx (d := 37) (T := 77) (A := A405) (n := (l404).length) (cap := cap406) (kd := .i64) (m := x480) (by kernel_rfl) sl77 (by have h_ := F508.at; rw [List.length_set] at h_; exact h_) ?_
      refine wS_storeH (k := 1) (enc := encI) (ll := l404.set (Int.toNat x480) (x482 ++ (([x492] : List (Int))))) (T := 75) (U := 75) (T2 := 3) (cap := cap406) (c := cap507) (n := (x482 ++ (([x492] : List (Int)))).length) (A := A405) (B := A506) (m := x480) (by kernel_rfl) sz75 F508 ?_
      intro w513 F514 hc515
      replace F412 := F412.chg hc515 (Dj.inl (Dj.of L0_1 G512))
      replace F426 := F426.chg hc515 (Dj.inl (Dj.of L0_1 G512))
      replace F497 := F497.chg hc515 (Dj.inl D511)
      replace hB := hB.inS hc515 (memS_inl (inLow G512))
      replace hZ := Nat.le_trans hZ hc515.size
      rewrite [show (l404).length = (l404.set (Int.toNat x480) (x482 ++ (([x492] : List (Int))))).length from (List.length_set ..).symm]
      refine wS_end (by rfl) ?_
      refine eX_then ?_
      refine cW_prune [(3, .slice A405 (l404.set (Int.toNat x480) (x482 ++ (([x492] : List (Int))))).length cap406), (5, .slice A424 (x422).length cap425), (16, .slice A0_1 (l0_1).length cap0_1), (17, .int .i64 (((l0_1).length : Int))), (18, .int .i64 (x410))] (by kernel_rfl) (by kernel_rfl) (fun a517 => ?_)
      refine cW_drawnTail (fr409 ++ fp505) 15 (by kernel_rfl) (by kernel_rfl) (fun w562 hc563 => ?_)
      replace F412 := F412.chg hc563 Dj.nil
      replace F426 := F426.chg hc563 Dj.nil
      replace F497 := F497.chg hc563 Dj.nil
      replace F514 := F514.chg hc563 Dj.nil
      replace hB := hB.inS hc563 inNil
      replace hZ := Nat.le_trans hZ hc563.size
      have hS := Chg.refl (fr409 ++ fp505) w562
      have Z564 := F412
      have Z565 := F426
      have Z566 := F497
      have Z567 := F514
      refine wH_take [0, 1] [1, 0] [(39, .slice A424 (x422).length cap425), (38, .slice A405 (l404.set (Int.toNat x480) (x482 ++ (([x492] : List (Int))))).length cap406)] (by kernel_rfl) (qT (qB (qT (qL (qB (qT (qT qZ))))))) (by kernel_rfl) ?_
      refine wH_idx (i := 2) (d := 40) (T := 25) (A := A424) (n := (x422).length) (cap := cap425) (kd := .i64) (m := 1) (by kernel_rfl) (qT (qB (qT (qL (qB (qT (qT qZ))))))) (by kernel_rfl) (by kernel_rfl) sl25 (F426.is hx493) ?_
      refine wH_load1 (i := 3) (d := 41) (T := 2) (ad := (elA A424 1 (1) 0)) (v := .int .i64 (x492)) (by kernel_rfl) (qT (qB (qT (qL (qB (qT (qT qZ))))))) (by kernel_rfl) (by kernel_rfl) vt2 (fun W hW => Sl.cell (Z565.chg hW (Dj.inr (Dj.of L0_1 G512))) hx493 0 (by rfl)) ?_
      refine wH_take [4, 5] [5, 4, 3, 2, 1, 0] [(43, .slice A424 (x422).length cap425), (42, .slice A405 (l404.set (Int.toNat x480) (x482 ++ (([x492] : List (Int))))).length cap406)] (by kernel_rfl) (qT (qB (qT (qL (qB (qT (qT qZ))))))) (by kernel_rfl) ?_
      refine wH_idx (i := 6) (d := 44) (T := 25) (A := A424) (n := (x422).length) (cap := cap425) (kd := .i64) (m := 1) (by kernel_rfl) (qT (qB (qT (qL (qB (qT (qT qZ))))))) (by kernel_rfl) (by kernel_rfl) sl25 (F426.is hx493) ?_
      refine wH_load1 (i := 7) (d := 45) (T := 2) (ad := (elA A424 1 (1) 0)) (v := .int .i64 (x492)) (by kernel_rfl) (qT (qB (qT (qL (qB (qT (qT qZ))))))) (by kernel_rfl) (by kernel_rfl) vt2 (fun W hW => Sl.cell (Z565.chg hW (Dj.inr (Dj.of L0_1 G512))) hx493 0 (by rfl)) ?_
      obtain ⟨x568, hx569, hm⟩ := bindE hm
      refine wH_idx (i := 8) (d := 46) (T := 77) (A := A405) (n := (l404.set (Int.toNat x480) (x482 ++ (([x492] : List (Int))))).length) (cap := cap406) (kd := .i64) (m := x492) (by kernel_rfl) (qT (qB (qT (qL (qB (qT (qT qZ))))))) (by kernel_rfl) (by kernel_rfl) sl77 ((F514.slr encI_ok).is hx569) ?_
      obtain ⟨A570, cap571, hc573, F572, K574⟩ := OwR.rowS Z567 encI_ok hx569
      have G576 := low_inr G512
      have Dm577 := (F514.dj).symm
      refine wH_load1 (i := 9) (d := 47) (T := 75) (ad := (elA A405 1 (x492) 0)) (v := .slice A570 (x568).length cap571) (by kernel_rfl) (qT (qB (qT (qL (qB (qT (qT qZ))))))) (by kernel_rfl) (by kernel_rfl) vt75 (fun W hW => hc573 W hW) ?_
      refine wH_take [10] [10, 9, 8, 7, 6, 5, 4, 3, 2, 1, 0] [(48, .slice A424 (x422).length cap425)] (by kernel_rfl) (qT (qB (qT (qL (qB (qT (qT qZ))))))) (by kernel_rfl) ?_
      refine wH_idx (i := 11) (d := 49) (T := 25) (A := A424) (n := (x422).length) (cap := cap425) (kd := .i64) (m := 0) (by kernel_rfl) (qT (qB (qT (qL (qB (qT (qT qZ))))))) (by kernel_rfl) (by kernel_rfl) sl25 (F426.is hx481) ?_
      refine wH_load1 (i := 12) (d := 50) (T := 2) (ad := (elA A424 1 (0) 0)) (v := .int .i64 (x480)) (by kernel_rfl) (qT (qB (qT (qL (qB (qT (qT qZ))))))) (by kernel_rfl) (by kernel_rfl) vt2 (fun W hW => Sl.cell (Z565.chg hW (Dj.inr (Dj.of L0_1 G512))) hx481 0 (by rfl)) ?_
      refine wH_all [13] (by rfl) (by kernel_rfl) (by simp) ⟨⟨by kernel_rfl, ?_⟩, trivial⟩
      refine wS_bs (enc := encI) ([x480] : List (Int)) [.int .i64 (x480)] (d := 51) (t := 75) (T := 3) (n := 1) (ps := [(0, .int .i64 (x480))]) (by kernel_rfl) el75 encI_ok (by rfl) (by omega) (by omega) (by kernel_rfl) (by rfl) ?_
      intro b578 w579 G580 F581 hc582
      have D584 : Dj [b494] [b578] := Dj.of F497.low (low1 G580)
      have D585 : Dj (fp407 ++ (fr409 ++ fp505)) [b578] := Dj.of F514.low (low1 G580)
      have D586 : Dj (fr409 ++ fp505) [b578] := Dj.of F572.low (low1 G580)
      replace F412 := F412.chg hc582 Dj.nil
      replace F426 := F426.chg hc582 Dj.nil
      replace F497 := F497.chg hc582 Dj.nil
      replace F514 := F514.chg hc582 Dj.nil
      replace F572 := F572.chg hc582 Dj.nil
      replace hB := hB.inS hc582 inNil
      have hSz := hS
      replace hS := hS.inS hc582 inNil
      have Gz587 := low1 (Nat.le_trans hSz.size G580)
      replace G580 := Nat.le_trans hZ G580
      replace G580 := low1 G580
      replace hZ := Nat.le_trans hZ hc582.size
      refine wS_end (by kernel_rfl) ?_
      refine eX_KH hS ?_
      refine wH_all [14] (by rfl) (by kernel_rfl) (by simp) ⟨⟨by kernel_rfl, ?_⟩, trivial⟩
      obtain ⟨_, hk588, hm⟩ := bindE hm
      replace hk588 := apE hk588
      refine wS_appH (k := 1) (enc := encI) (ll := l404.set (Int.toNat x480) (x482 ++ (([x492] : List (Int))))) (l := (x568 : List (Int))) (l2 := (([x480] : List (Int)) : List (Int))) (d := 52) (t := 75) (T2 := 3) (U := 75) (m := x492) (A := A405) (B := A570) (A2 := (some ⟨b578, 0, none⟩)) (cap := cap406) (c := cap571) (cap2 := 1) (by kernel_rfl) el75 encI_ok F514 hx569 (hc573 _ hS) (F581.sl encI_ok) hk588 ?_
      intro w589 fp590 A591 cap592 F593 hc594 hp595
      have D596 : Dj [b494] (fp407 ++ ((fr409 ++ fp505) ++ fp590)) := Dj.app (Dj.inl D511) (Dj.app (Dj.inr D511) (Dj.ap (Dj.inr D511) F497.low hp595))
      have D597 : Dj [b578] (fp407 ++ ((fr409 ++ fp505) ++ fp590)) := Dj.app (Dj.inl (D585).symm) (Dj.app (Dj.inr (D585).symm) (Dj.ap (Dj.inr (D585).symm) F581.low hp595))
      have G598 := lowApp (low_inl G512) (lowApp (low_inr G512) (low_ap (low_inr G512) hZ hp595))
      replace F412 := F412.chg hc594 (Dj.inr (Dj.of L0_1 G512))
      replace F426 := F426.chg hc594 (Dj.inr (Dj.of L0_1 G512))
      replace F497 := F497.chg hc594 (Dj.inr D511)
      replace F581 := F581.chg hc594 (Dj.inr (D585).symm)
      replace hB := hB.inS hc594 (memS_inr (inLow G512))
      have hSz := hS
      replace hS := hS.trans hc594
      replace hZ := Nat.le_trans hZ hc594.size
      refine wS_end (by kernel_rfl) ?_
      refine eX_KH hS ?_
      refine wH_done (by kernel_rfl) ?_
      refine eX_tail ?_
      refine wS_idx (d := 53) (T := 77) (A := A405) (n := (l404.set (Int.toNat x480) (x482 ++ (([x492] : List (Int))))).length) (cap := cap406) (kd := .i64) (m := x492) (by kernel_rfl) sl77 (by have h_ := F593.at; rw [List.length_set] at h_; exact h_) ?_
      refine wS_storeH (k := 1) (enc := encI) (ll := (l404.set (Int.toNat x480) (x482 ++ (([x492] : List (Int))))).set (Int.toNat x492) (x568 ++ (([x480] : List (Int))))) (T := 75) (U := 75) (T2 := 3) (cap := cap406) (c := cap592) (n := (x568 ++ (([x480] : List (Int)))).length) (A := A405) (B := A591) (m := x492) (by kernel_rfl) sz75 F593 ?_
      intro w599 F600 hc601
      replace F412 := F412.chg hc601 (Dj.inl (Dj.of L0_1 G598))
      replace F426 := F426.chg hc601 (Dj.inl (Dj.of L0_1 G598))
      replace F497 := F497.chg hc601 (Dj.inl D596)
      replace F581 := F581.chg hc601 (Dj.inl D597)
      replace hB := hB.inS hc601 (memS_inl (inLow G598))
      replace hZ := Nat.le_trans hZ hc601.size
      rewrite [show (l404.set (Int.toNat x480) (x482 ++ (([x492] : List (Int))))).length = ((l404.set (Int.toNat x480) (x482 ++ (([x492] : List (Int))))).set (Int.toNat x492) (x568 ++ (([x480] : List (Int))))).length from (List.length_set ..).symm]
      refine wS_end (by rfl) ?_
      refine eX_block ?_
      refine eX_then ?_
      refine cW_region ?_
      refine wS_pure 2 [(18, .int .i64 (wr (x410 + 1))), (54, .int .i64 (wr (x410 + 1)))] (by kernel_rfl) ?_
      refine wS_end (by rfl) ?_
      have hq : (some (Ctl.next (((l404.set (Int.toNat x480) (x482 ++ (([x492] : List (Int))))).set (Int.toNat x492) (x568 ++ (([x480] : List (Int)))), wr (x410 + 1)))) : Option (Ctl ((List (List (Int))) × Int) ((List (List (Int)))))) = some _ := hm
      replace hq := someE hq
      subst hq
      exact eX_next hx420 (fun hst => ⟨(l404.set (Int.toNat x480) (x482 ++ (([x492] : List (Int))))).set (Int.toNat x492) (x568 ++ (([x480] : List (Int)))), A405, cap406, fp407, ((fr409 ++ fp505) ++ fp590), wr (x410 + 1), rfl, Fr.of hst (by kernel_rfl), F412, F600, G598, hB, hZ⟩)
    · have hm := condF hb421 hm
      refine cW_exit ?_
      refine eX_then_exit ?_
      have hq : (some (Ctl.out l404) : Option (Ctl ((List (List (Int))) × Int) ((List (List (Int)))))) = some _ := hm
      replace hq := someE hq
      subst hq
      refine eX_outX hx420 (fun hr603 => ?_)
      replace hr603 := hr603.symm
      subst hr603
      refine eX_block_hit ?_
      exact eX_J (fun hst => ⟨l404, A405, cap406, fp407, fr409, rfl, Fr.of hst (by kernel_rfl), F413, G414, hB, hZ⟩)
  · rintro a' w393 ⟨l394, A395, cap396, fp397, fr399, hJ, hF400, F401, G402, hB, hZ⟩
    subst hJ
    refine Fr.goX hF400 (by kernel_rfl) ?_
    refine eX_then ?_
    refine cW_seq ?_
    refine cW_seq ?_
    refine cW_region ?_
    refine wS_pure 3 [(57, .int .i64 (0)), (56, .int .i64 (((l394).length : Int))), (55, .slice A395 (l394).length cap396)] (by kernel_rfl) ?_
    refine wS_end (by rfl) ?_
    refine eX_then ?_
    obtain ⟨r663, hr664, hm⟩ := bindE hm
    have hm665 := hm
    refine cW_cut (fun a' w' => ∃ l655 : List (List (Int)), l655 = r663 ∧ Fr 65 [(3, .slice A395 (l655).length cap396)] a' ∧ OwR 1 encI 75 3 w' fp397 fr399 A395 cap396 l655 ∧ Chg [] w0 w' ∧ w0.heap.size ≤ w'.heap.size) ?_ ?_
    · refine cW_block ?_
      refine cW_loop _ (fun (s666 : Int × (List (List (Int)))) a' w' => ∃ x659 : Int, ∃ l660 : List (List (Int)), (x659, l660) = s666 ∧ Fr 65 [(3, .slice A395 (l660).length cap396), (55, .slice A395 (l660).length cap396), (56, .int .i64 (((l394).length : Int))), (57, .int .i64 (x659))] a' ∧ OwR 1 encI 75 3 w' fp397 fr399 A395 cap396 l660 ∧ Chg [] w0 w' ∧ w0.heap.size ≤ w'.heap.size) hr664 (fun hst => ⟨0, l394, rfl, Fr.of hst (by kernel_rfl), F401, hB, hZ⟩) ?_
      rintro _ c667 a' w658 ⟨x659, l660, rfl, hF661, F662, hB, hZ⟩ hx668
      refine Fr.goOn hF661 (by kernel_rfl) ?_
      have hm := hx668
      unfold m_impl_Wiring_crossed_bimplWiring_s2 at hm
      refine cW_seq ?_
      refine cW_region ?_
      refine wS_pure 1 [(58, .bool (decide (x659 < (((l394).length : Int)))))] (by kernel_rfl) ?_
      refine wS_end (by rfl) ?_
      refine eX_then ?_
      refine cW_seq ?_
      refine cW_cond (t := decide (x659 < (((l394).length : Int)))) (by kernel_rfl) (fun hb669 => ?_) (fun hb669 => ?_)
      · have hm := condT hb669 hm
        refine cW_skip ?_
        refine eX_then ?_
        refine cW_seq ?_
        refine cW_block ?_
        refine cW_seq ?_
        refine cW_region ?_
        obtain ⟨x670, hx671, hm⟩ := bindE hm
        refine wS_idx (d := 59) (T := 77) (A := A395) (n := (l660).length) (cap := cap396) (kd := .i64) (m := x659) (by kernel_rfl) sl77 ((F662.slr encI_ok).is hx671) ?_
        obtain ⟨A672, cap673, fp677, hc675, hsub678, F674, hcl679⟩ := OwR.lend F662 hx671
        have G681 := low_inr G402
        have Dm682 := (F662.dj).symm
        refine wS_load1 (d := 60) (T := 75) (ad := (elA A395 1 (x659) 0)) (v := .slice A672 (x670).length cap673) (by kernel_rfl) vt75 hc675 ?_
        refine wS_pure 1 [(7, .slice A672 (x670).length cap673)] (by kernel_rfl) ?_
        refine wS_end (by rfl) ?_
        refine eX_then ?_
        refine cW_region ?_
        refine wS_pure 1 [(61, .slice A672 (x670).length cap673)] (by kernel_rfl) ?_
        obtain ⟨y683, hy684, hm⟩ := bindE hm
        refine wS_calls (d := 62) (f := 95) (vs := [.slice A672 (x670).length cap673]) (by kernel_rfl) ent95 (c_slices_Sort_int_int hy684 F674) ?_
        rintro _ w685 ⟨rfl, F687, hl688, hc686⟩
        have F689 := hcl679 _ _ (hc686.more (fun x hx => by simpa using hx)) F687 hl688
        have hc690 := hc686.more (S' := (fp397 ++ fr399) ++ []) (fun x hx => List.mem_append_left _ (hsub678 x (by simpa using hx)))
        clear F662
        replace hB := hB.inS hc690 (inApp (inLow G402) inNil)
        replace hZ := Nat.le_trans hZ hc690.size
        refine ⟨.tuple #[], rfl, ?_⟩
        rewrite [(show (l660).length = (l660.set (Int.toNat x659) y683).length from (List.length_set ..).symm)]
        refine wS_end (by rfl) ?_
        refine eX_block ?_
        refine eX_then ?_
        refine cW_region ?_
        refine wS_pure 2 [(57, .int .i64 (wr (x659 + 1))), (63, .int .i64 (wr (x659 + 1)))] (by kernel_rfl) ?_
        refine wS_end (by rfl) ?_
        have hq : (some (Ctl.next ((wr (x659 + 1), l660.set (Int.toNat x659) y683))) : Option (Ctl (Int × (List (List (Int)))) ((List (List (Int)))))) = some _ := hm
        replace hq := someE hq
        subst hq
        exact eX_next hx668 (fun hst => ⟨wr (x659 + 1), l660.set (Int.toNat x659) y683, rfl, Fr.of hst (by kernel_rfl), F689, hB, hZ⟩)
      · have hm := condF hb669 hm
        refine cW_exit ?_
        refine eX_then_exit ?_
        have hq : (some (Ctl.out l660) : Option (Ctl (Int × (List (List (Int)))) ((List (List (Int)))))) = some _ := hm
        replace hq := someE hq
        subst hq
        refine eX_outX hx668 (fun hr691 => ?_)
        replace hr691 := hr691.symm
        subst hr691
        refine eX_block_hit ?_
        exact eX_J (fun hst => ⟨l660, rfl, Fr.of hst (by kernel_rfl), F662, hB, hZ⟩)
    · rintro a' w654 ⟨l655, hJ, hF656, F657, hB, hZ⟩
      subst hJ
      refine Fr.goX hF656 (by kernel_rfl) ?_
      refine eX_then ?_
      refine cW_seq ?_
      refine cW_region ?_
      refine wS_pure 2 [(2, .slice A395 (l655).length cap396), (64, .slice A395 (l655).length cap396)] (by kernel_rfl) ?_
      refine wS_end (by rfl) ?_
      refine eX_then ?_
      refine cW_ret ?_
      have hq : (some l655 : Option ((List (List (Int))))) = some _ := hm
      replace hq := someE hq
      subst hq
      refine eX_ret (vs := [.slice A395 (l655).length cap396]) [.tmp 2] (by rfl) ⟨by (show lkE _ _ _ = _); kernel_rfl, trivial⟩ ?_
      exact ⟨A395, cap396, fp397, fr399, rfl, F657, G402, hB⟩

set_option maxRecDepth 100000 in
/-- impl.Wiring).cost -/
theorem c_impl_Wiring_cost_bimplWiring {w0 : World} {q0_0 : Int} {l0_1 : List (List (Int))} {A0_1 : Option Addr} {cap0_1 : Nat} {fp0_1 : List Nat} {l0_2 : List (List (Int))} {A0_2 : Option Addr} {cap0_2 : Nat} {fp0_2 : List Nat} {l0_3 : List (Int)} {A0_3 : Option Addr} {cap0_3 : Nat} {fp0_3 : List Nat} {b0 : Nat} {l1 : List (Int)} {A1 : Option Addr} {cap1 : Nat} {fp1 : List Nat} {r : (Int)} (hm : m_impl_Wiring_cost_bimplWiring q0_0 l0_1 l0_2 l0_3 l1 = some r) (F0_1 : SlR 1 encI w0 fp0_1 A0_1 l0_1) (F0_2 : SlR 1 encI w0 fp0_2 A0_2 l0_2) (F0_3 : Sl 1 encI w0 fp0_3 A0_3 l0_3) (F0 : Cl w0 b0 27 [.int .i64 (q0_0), .slice A0_1 (l0_1).length cap0_1, .slice A0_2 (l0_2).length cap0_2, .slice A0_3 (l0_3).length cap0_3]) (F1 : Sl 1 encI w0 fp1 A1 l1) :
    Calls Try.prog 92 #[.pointer (some ⟨b0, 0, none⟩), .slice A1 (l1).length cap1] w0 fun e w' => e = .returned (.int .i64 (r)) ∧ Chg [] w0 w' := by
  have L0_1 := F0_1.low
  have L0_2 := F0_2.low
  have L0_3 := F0_3.low
  have L0 := lt1 F0.lt
  have L1 := F1.low
  have hB : Chg [] w0 w0 := Chg.refl _ _
  have hZ := Nat.le_refl w0.heap.size
  unfold m_impl_Wiring_cost_bimplWiring at hm
  refine enterE (N := 37) Try.func92 (by rfl) Try.ntmps92 (by simp) [(0, .pointer (some ⟨b0, 0, none⟩)), (1, .slice A1 (l1).length cap1)] (by rfl) (by kernel_rfl) (fun a => ?_)
  refine cW_seq ?_
  refine cW_region ?_
  refine wS_pure 1 [(4, .int .i64 (0))] (by kernel_rfl) ?_
  refine wS_end (by rfl) ?_
  refine eX_then ?_
  refine cW_seq ?_
  refine cW_region ?_
  refine wS_pure 1 [(5, .int .i64 (0))] (by kernel_rfl) ?_
  refine wS_end (by rfl) ?_
  refine eX_then ?_
  refine cW_seq ?_
  refine cW_seq ?_
  refine cW_region ?_
  refine wS_pure 3 [(10, .pointer (some ⟨b0, 2, none⟩)), (9, .pointer (some ⟨b0, 0, none⟩)), (8, .pointer (some ⟨b0, 0, none⟩))] (by kernel_rfl) ?_
  refine wS_load1 (d := 11) (T := 24) (ad := ⟨b0, 2, none⟩) (v := .slice A0_2 (l0_2).length cap0_2) (by kernel_rfl) vt24 ((F0).cell 2) ?_
  refine wS_pure 2 [(13, .int .i64 (0)), (12, .int .i64 (((l0_2).length : Int)))] (by kernel_rfl) ?_
  refine wS_end (by rfl) ?_
  refine eX_then ?_
  obtain ⟨r187, hr188, hm⟩ := bindE hm
  have hm189 := hm
  refine cW_cut (fun a' w' => ∃ x179 : Int, x179 = r187 ∧ Fr 37 [(5, .int .i64 (x179))] a' ∧ Chg [] w0 w' ∧ w0.heap.size ≤ w'.heap.size) ?_ ?_
  · refine cW_block ?_
    refine cW_loop _ (fun (s190 : Int × Int) a' w' => ∃ x182 : Int, ∃ x183 : Int, (x182, x183) = s190 ∧ Fr 37 [(1, .slice A1 (l1).length cap1), (5, .int .i64 (x182)), (11, .slice A0_2 (l0_2).length cap0_2), (12, .int .i64 (((l0_2).length : Int))), (13, .int .i64 (x183))] a' ∧ SlR 1 encI w' fp0_2 A0_2 l0_2 ∧ Sl 1 encI w' fp1 A1 l1 ∧ Chg [] w0 w' ∧ w0.heap.size ≤ w'.heap.size) hr188 (fun hst => ⟨0, 0, rfl, Fr.of hst (by kernel_rfl), F0_2, F1, hB, hZ⟩) ?_
    rintro _ c191 a' w181 ⟨x182, x183, rfl, hF184, F185, F186, hB, hZ⟩ hx192
    refine Fr.goOn hF184 (by kernel_rfl) ?_
    have hm := hx192
    unfold m_impl_Wiring_cost_bimplWiring_s1 at hm
    refine cW_seq ?_
    refine cW_region ?_
    refine wS_pure 1 [(14, .bool (decide (x183 < (((l0_2).length : Int)))))] (by kernel_rfl) ?_
    refine wS_end (by rfl) ?_
    refine eX_then ?_
    refine cW_seq ?_
    refine cW_cond (t := decide (x183 < (((l0_2).length : Int)))) (by kernel_rfl) (fun hb193 => ?_) (fun hb193 => ?_)
    · have hm := condT hb193 hm
      refine cW_skip ?_
      refine eX_then ?_
      refine cW_seq ?_
      refine cW_block ?_
      obtain ⟨s236, hs237, hm⟩ := bindE hm
      refine cW_cut (fun a' w' => ∃ x232 : Int, x232 = s236 ∧ Fr 37 [(1, .slice A1 (l1).length cap1), (5, .int .i64 (x232)), (11, .slice A0_2 (l0_2).length cap0_2), (12, .int .i64 (((l0_2).length : Int))), (13, .int .i64 (x183))] a' ∧ SlR 1 encI w' fp0_2 A0_2 l0_2 ∧ Sl 1 encI w' fp1 A1 l1 ∧ Chg [] w0 w' ∧ w0.heap.size ≤ w'.heap.size) ?_ ?_
      · have hm := hs237
        refine cW_seq ?_
        refine cW_region ?_
        obtain ⟨x238, hx239, hm⟩ := bindE hm
        refine wS_idx (d := 15) (T := 24) (A := A0_2) (n := (l0_2).length) (cap := cap0_2) (kd := .i64) (m := x183) (by kernel_rfl) sl24 (F185.is hx239) ?_
        obtain ⟨A240, cap241, hc243, F242, K244⟩ := SlR.row F185 hx239
        refine wS_load1 (d := 16) (T := 25) (ad := (elA A0_2 1 (x183) 0)) (v := .slice A240 (x238).length cap241) (by kernel_rfl) vt25 hc243 ?_
        refine wS_pure 1 [(7, .slice A240 (x238).length cap241)] (by kernel_rfl) ?_
        refine wS_end (by rfl) ?_
        refine eX_then ?_
        refine cW_seq ?_
        refine cW_drawnTail [] 12 (by kernel_rfl) (by kernel_rfl) (fun w259 hc260 => ?_)
        replace F185 := F185.chg hc260 Dj.nil
        replace F186 := F186.chg hc260 Dj.nil
        replace F242 := F242.chg hc260 Dj.nil
        replace hB := hB.inS hc260 inNil
        replace hZ := Nat.le_trans hZ hc260.size
        have hS := Chg.refl [] w259
        have Z261 := F185
        have Z262 := F186
        have Z263 := F242
        refine wH_take [0, 1] [1, 0] [(18, .slice A240 (x238).length cap241), (17, .slice A1 (l1).length cap1)] (by kernel_rfl) (qT (qT (qT (qB (qT (qL (qB (qT (qT qZ))))))))) (by kernel_rfl) ?_
        obtain ⟨x264, hx265, hm⟩ := bindE hm
        refine wH_idx (i := 2) (d := 19) (T := 25) (A := A240) (n := (x238).length) (cap := cap241) (kd := .i64) (m := 0) (by kernel_rfl) (qT (qT (qT (qB (qT (qL (qB (qT (qT qZ))))))))) (by kernel_rfl) (by kernel_rfl) sl25 (F242.is hx265) ?_
        refine wH_load1 (i := 3) (d := 20) (T := 2) (ad := (elA A240 1 (0) 0)) (v := .int .i64 (x264)) (by kernel_rfl) (qT (qT (qT (qB (qT (qL (qB (qT (qT qZ))))))))) (by kernel_rfl) (by kernel_rfl) vt2 (fun W hW => Sl.cell (Z263.chg hW Dj.nil) hx265 0 (by rfl)) ?_
        obtain ⟨x266, hx267, hm⟩ := bindE hm
        refine wH_idx (i := 4) (d := 21) (T := 25) (A := A1) (n := (l1).length) (cap := cap1) (kd := .i64) (m := x264) (by kernel_rfl) (qT (qT (qT (qB (qT (qL (qB (qT (qT qZ))))))))) (by kernel_rfl) (by kernel_rfl) sl25 (F186.is hx267) ?_
        refine wH_load1 (i := 5) (d := 22) (T := 2) (ad := (elA A1 1 (x264) 0)) (v := .int .i64 (x266)) (by kernel_rfl) (qT (qT (qT (qB (qT (qL (qB (qT (qT qZ))))))))) (by kernel_rfl) (by kernel_rfl) vt2 (fun W hW => Sl.cell (Z262.chg hW Dj.nil) hx267 0 (by rfl)) ?_
        refine wH_take [6, 7] [7, 6, 5, 4, 3, 2, 1, 0] [(24, .slice A240 (x238).length cap241), (23, .slice A1 (l1).length cap1)] (by kernel_rfl) (qT (qT (qT (qB (qT (qL (qB (qT (qT qZ))))))))) (by kernel_rfl) ?_
        obtain ⟨x268, hx269, hm⟩ := bindE hm
        refine wH_idx (i := 8) (d := 25) (T := 25) (A := A240) (n := (x238).length) (cap := cap241) (kd := .i64) (m := 1) (by kernel_rfl) (qT (qT (qT (qB (qT (qL (qB (qT (qT qZ))))))))) (by kernel_rfl) (by kernel_rfl) sl25 (F242.is hx269) ?_
        refine wH_load1 (i := 9) (d := 26) (T := 2) (ad := (elA A240 1 (1) 0)) (v := .int .i64 (x268)) (by kernel_rfl) (qT (qT (qT (qB (qT (qL (qB (qT (qT qZ))))))))) (by kernel_rfl) (by kernel_rfl) vt2 (fun W hW => Sl.cell (Z263.chg hW Dj.nil) hx269 0 (by rfl)) ?_
        obtain ⟨x270, hx271, hm⟩ := bindE hm
        refine wH_idx (i := 10) (d := 27) (T := 25) (A := A1) (n := (l1).length) (cap := cap1) (kd := .i64) (m := x268) (by kernel_rfl) (qT (qT (qT (qB (qT (qL (qB (qT (qT qZ))))))))) (by kernel_rfl) (by kernel_rfl) sl25 (F186.is hx271) ?_
        refine wH_load1 (i := 11) (d := 28) (T := 2) (ad := (elA A1 1 (x268) 0)) (v := .int .i64 (x270)) (by kernel_rfl) (qT (qT (qT (qB (qT (qL (qB (qT (qT qZ))))))))) (by kernel_rfl) (by kernel_rfl) vt2 (fun W hW => Sl.cell (Z262.chg hW Dj.nil) hx271 0 (by rfl)) ?_
        refine wH_done (by kernel_rfl) ?_
        refine eX_tail ?_
        refine wS_pure 1 [(29, .bool (x266 != x270))] (by kernel_rfl) ?_
        refine wS_end (by rfl) ?_
        refine eX_then ?_
        refine cW_cond (t := x266 != x270) (by kernel_rfl) (fun hb272 => ?_) (fun hb272 => ?_)
        · have hm := condT hb272 hm
          refine cW_region ?_
          refine wS_pure 2 [(31, .slice A240 (x238).length cap241), (30, .int .i64 (x182))] (by kernel_rfl) ?_
          obtain ⟨x273, hx274, hm⟩ := bindE hm
          refine wS_idx (d := 32) (T := 25) (A := A240) (n := (x238).length) (cap := cap241) (kd := .i64) (m := 2) (by kernel_rfl) sl25 (F242.is hx274) ?_
          refine wS_load1 (d := 33) (T := 2) (ad := (elA A240 1 (2) 0)) (v := .int .i64 (x273)) (by kernel_rfl) vt2 (Sl.cell F242 hx274 0 (by rfl)) ?_
          refine wS_pure 2 [(5, .int .i64 (wr (x182 + x273))), (34, .int .i64 (wr (x182 + x273)))] (by kernel_rfl) ?_
          refine wS_end (by rfl) ?_
          have hq : (some (wr (x182 + x273)) : Option (Int)) = some _ := hm
          replace hq := someE hq
          subst hq
          exact eX_J (fun hst => ⟨wr (x182 + x273), rfl, Fr.of hst (by kernel_rfl), F185, F186, hB, hZ⟩)
        · have hm := condF hb272 hm
          refine cW_skip ?_
          have hq : (some x182 : Option (Int)) = some _ := hm
          replace hq := someE hq
          subst hq
          exact eX_J (fun hst => ⟨x182, rfl, Fr.of hst (by kernel_rfl), F185, F186, hB, hZ⟩)
      · rintro a' w231 ⟨x232, hJ, hF233, F234, F235, hB, hZ⟩
        subst hJ
        refine Fr.goX hF233 (by kernel_rfl) ?_
        refine eX_block ?_
        refine eX_then ?_
        refine cW_region ?_
        refine wS_pure 2 [(13, .int .i64 (wr (x183 + 1))), (35, .int .i64 (wr (x183 + 1)))] (by kernel_rfl) ?_
        refine wS_end (by rfl) ?_
        have hq : (some (Ctl.next ((x232, wr (x183 + 1)))) : Option (Ctl (Int × Int) (Int))) = some _ := hm
        replace hq := someE hq
        subst hq
        exact eX_next hx192 (fun hst => ⟨x232, wr (x183 + 1), rfl, Fr.of hst (by kernel_rfl), F234, F235, hB, hZ⟩)
    · have hm := condF hb193 hm
      refine cW_exit ?_
      refine eX_then_exit ?_
      have hq : (some (Ctl.out x182) : Option (Ctl (Int × Int) (Int))) = some _ := hm
      replace hq := someE hq
      subst hq
      refine eX_outX hx192 (fun hr275 => ?_)
      replace hr275 := hr275.symm
      subst hr275
      refine eX_block_hit ?_
      exact eX_J (fun hst => ⟨x182, rfl, Fr.of hst (by kernel_rfl), hB, hZ⟩)
  · rintro a' w178 ⟨x179, hJ, hF180, hB, hZ⟩
    subst hJ
    refine Fr.goX hF180 (by kernel_rfl) ?_
    refine eX_then ?_
    refine cW_seq ?_
    refine cW_region ?_
    refine wS_pure 2 [(4, .int .i64 (x179)), (36, .int .i64 (x179))] (by kernel_rfl) ?_
    refine wS_end (by rfl) ?_
    refine eX_then ?_
    refine cW_ret ?_
    have hq : (some x179 : Option ((Int))) = some _ := hm
    replace hq := someE hq
    subst hq
    refine eX_ret (vs := [.int .i64 (x179)]) [.tmp 4] (by rfl) ⟨by (show lkE _ _ _ = _); kernel_rfl, trivial⟩ ?_
    exact ⟨rfl, hB⟩

set_option maxRecDepth 100000 in
/-- impl.Wiring).best$1$1 -/
theorem c_impl_Wiring_best_1_1_bint_bint64_bint64 {w0 : World} {p0 : Int} {q1_0 : Int} {b1 : Nat} {l2_0 : List (Int)} {A2_0 : Option Addr} {cap2_0 : Nat} {fp2_0 : List Nat} {b2 : Nat} {q3_0 : Int} {b3 : Nat} {r : (Bool)} (hm : m_impl_Wiring_best_1_1_bint_bint64_bint64 p0 q1_0 l2_0 q3_0 = some r) (F1 : Cl w0 b1 3 [.int .i64 (q1_0)]) (F2_0 : Sl 1 encI w0 fp2_0 A2_0 l2_0) (F2 : Cl w0 b2 25 [.slice A2_0 (l2_0).length cap2_0]) (F3 : Cl w0 b3 2 [.int .i64 (q3_0)]) :
    Calls Try.prog 94 #[.int .i64 (p0), .pointer (some ⟨b1, 0, none⟩), .pointer (some ⟨b2, 0, none⟩), .pointer (some ⟨b3, 0, none⟩)] w0 fun e w' => e = .returned (.bool (r)) ∧ Chg [] w0 w' := by
  have L1 := lt1 F1.lt
  have L2_0 := F2_0.low
  have L2 := lt1 F2.lt
  have L3 := lt1 F3.lt
  have hB : Chg [] w0 w0 := Chg.refl _ _
  have hZ := Nat.le_refl w0.heap.size
  unfold m_impl_Wiring_best_1_1_bint_bint64_bint64 at hm
  refine enterE (N := 17) Try.func94 (by rfl) Try.ntmps94 (by simp) [(0, .int .i64 (p0)), (1, .pointer (some ⟨b1, 0, none⟩)), (2, .pointer (some ⟨b2, 0, none⟩)), (3, .pointer (some ⟨b3, 0, none⟩))] (by rfl) (by kernel_rfl) (fun a => ?_)
  refine cW_seq ?_
  refine cW_region ?_
  refine wS_pure 1 [(5, .bool (false))] (by kernel_rfl) ?_
  refine wS_end (by rfl) ?_
  refine eX_then ?_
  refine cW_seq ?_
  refine cW_drawnTail [] 9 (by kernel_rfl) (by kernel_rfl) (fun w14 hc15 => ?_)
  replace F1 := F1.chg hc15 notNil
  replace F2_0 := F2_0.chg hc15 Dj.nil
  replace F2 := F2.chg hc15 notNil
  replace F3 := F3.chg hc15 notNil
  replace hB := hB.inS hc15 inNil
  replace hZ := Nat.le_trans hZ hc15.size
  have hS := Chg.refl [] w14
  have Z16 := F1
  have Z17 := F2_0
  have Z18 := F2
  have Z19 := F3
  refine wH_take [0] [0] [(6, .int .i64 (p0))] (by kernel_rfl) (qT (qT qZ)) (by kernel_rfl) ?_
  refine wH_load1 (i := 1) (d := 7) (T := 3) (ad := ⟨b1, 0, none⟩) (v := .int .i64 (q1_0)) (by kernel_rfl) (qT (qT qZ)) (by kernel_rfl) (by kernel_rfl) vt3 (fun W hW => (Z16.chg hW notNil).cell 0) ?_
  refine wH_take [2, 3] [3, 2, 1, 0] [(9, .bool (decide (p0 < q1_0))), (8, .bool (decide (p0 < q1_0)))] (by kernel_rfl) (qT (qT qZ)) (by kernel_rfl) ?_
  refine wH_bool (decide (p0 < q1_0)) (fun hb20 => ?_) (fun hb20 => ?_)
  · have hm := condT hb20 hm
    rewrite [hb20]
    refine wH_load1 (i := 4) (d := 10) (T := 25) (ad := ⟨b2, 0, none⟩) (v := .slice A2_0 (l2_0).length cap2_0) (by kernel_rfl) (qT (qT qZ)) (by kernel_rfl) (by kernel_rfl) vt25 (fun W hW => (Z18.chg hW notNil).cell 0) ?_
    refine wH_take [5] [5, 4, 3, 2, 1, 0] [(11, .int .i64 (p0))] (by kernel_rfl) (qT (qT qZ)) (by kernel_rfl) ?_
    obtain ⟨x21, hx22, hm⟩ := bindE hm
    refine wH_idx (i := 6) (d := 12) (T := 25) (A := A2_0) (n := (l2_0).length) (cap := cap2_0) (kd := .i64) (m := p0) (by kernel_rfl) (qT (qT qZ)) (by kernel_rfl) (by kernel_rfl) sl25 (F2_0.is hx22) ?_
    refine wH_load1 (i := 7) (d := 13) (T := 2) (ad := (elA A2_0 1 (p0) 0)) (v := .int .i64 (x21)) (by kernel_rfl) (qT (qT qZ)) (by kernel_rfl) (by kernel_rfl) vt2 (fun W hW => Sl.cell (Z17.chg hW Dj.nil) hx22 0 (by rfl)) ?_
    refine wH_load1 (i := 8) (d := 14) (T := 2) (ad := ⟨b3, 0, none⟩) (v := .int .i64 (q3_0)) (by kernel_rfl) (qT (qT qZ)) (by kernel_rfl) (by kernel_rfl) vt2 (fun W hW => (Z19.chg hW notNil).cell 0) ?_
    refine wH_done (by kernel_rfl) ?_
    refine eX_tail ?_
    refine wS_pure 3 [(5, .bool (x21 == q3_0)), (16, .bool (x21 == q3_0)), (15, .bool (x21 == q3_0))] (by kernel_rfl) ?_
    refine wS_end (by rfl) ?_
    refine eX_then ?_
    refine cW_ret ?_
    have hq : (some (x21 == q3_0) : Option ((Bool))) = some _ := hm
    replace hq := someE hq
    subst hq
    refine eX_ret (vs := [.bool (x21 == q3_0)]) [.tmp 5] (by rfl) ⟨by (show lkE _ _ _ = _); kernel_rfl, trivial⟩ ?_
    exact ⟨rfl, hB⟩
  · have hm := condF hb20 hm
    rewrite [hb20]
    refine wH_take [4, 5, 6, 7, 8] [8, 7, 6, 5, 4, 3, 2, 1, 0] [(14, undef), (13, undef), (12, undef), (11, undef), (10, undef)] (by kernel_rfl) (qT (qT qZ)) (by kernel_rfl) ?_
    refine wH_done (by kernel_rfl) ?_
    refine eX_tail ?_
    refine wS_pure 3 [(5, .bool (false)), (16, .bool (false)), (15, undef)] (by kernel_rfl) ?_
    refine wS_end (by rfl) ?_
    refine eX_then ?_
    refine cW_ret ?_
    have hq : (some false : Option ((Bool))) = some _ := hm
    replace hq := someE hq
    subst hq
    refine eX_ret (vs := [.bool (false)]) [.tmp 5] (by rfl) ⟨by (show lkE _ _ _ = _); kernel_rfl, trivial⟩ ?_
    exact ⟨rfl, hB⟩

set_option maxRecDepth 100000 in
/-- slices.IndexFunc[[]int,int] -/
theorem c_slices_IndexFunc_int_int_impl_Wiring_best_1_1_bint_bint64_bint64 {w0 : World} {l0 : List (Int)} {A0 : Option Addr} {cap0 : Nat} {fp0 : List Nat} {q1_0_0 : Int} {b1_0 : Nat} {l1_1_0 : List (Int)} {A1_1_0 : Option Addr} {cap1_1_0 : Nat} {fp1_1_0 : List Nat} {b1_1 : Nat} {q1_2_0 : Int} {b1_2 : Nat} {r : (Int)} (hm : m_slices_IndexFunc_int_int_impl_Wiring_best_1_1_bint_bint64_bint64 l0 q1_0_0 l1_1_0 q1_2_0 = some r) (F0 : Sl 1 encI w0 fp0 A0 l0) (F1_0 : Cl w0 b1_0 3 [.int .i64 (q1_0_0)]) (F1_1_0 : Sl 1 encI w0 fp1_1_0 A1_1_0 l1_1_0) (F1_1 : Cl w0 b1_1 25 [.slice A1_1_0 (l1_1_0).length cap1_1_0]) (F1_2 : Cl w0 b1_2 2 [.int .i64 (q1_2_0)]) :
    Calls Try.prog 114 #[.slice A0 (l0).length cap0, .func (.func 94) #[] #[.pointer (some ⟨b1_0, 0, none⟩), .pointer (some ⟨b1_1, 0, none⟩), .pointer (some ⟨b1_2, 0, none⟩)]] w0 fun e w' => e = .returned (.int .i64 (r)) ∧ Chg [] w0 w' := by
  have L0 := F0.low
  have L1_0 := lt1 F1_0.lt
  have L1_1_0 := F1_1_0.low
  have L1_1 := lt1 F1_1.lt
  have L1_2 := lt1 F1_2.lt
  have hB : Chg [] w0 w0 := Chg.refl _ _
  have hZ := Nat.le_refl w0.heap.size
  unfold m_slices_IndexFunc_int_int_impl_Wiring_best_1_1_bint_bint64_bint64 at hm
  refine enterE (N := 19) Try.func114 (by rfl) Try.ntmps114 (by simp) [(0, .slice A0 (l0).length cap0), (1, .func (.func 94) #[] #[.pointer (some ⟨b1_0, 0, none⟩), .pointer (some ⟨b1_1, 0, none⟩), .pointer (some ⟨b1_2, 0, none⟩)])] (by rfl) (by kernel_rfl) (fun a => ?_)
  refine cW_seq ?_
  refine cW_region ?_
  refine wS_pure 1 [(4, .int .i64 (0))] (by kernel_rfl) ?_
  refine wS_end (by rfl) ?_
  refine eX_then ?_
  refine cW_seq ?_
  refine cW_seq ?_
  refine cW_region ?_
  refine wS_pure 3 [(8, .int .i64 (0)), (7, .int .i64 (((l0).length : Int))), (6, .slice A0 (l0).length cap0)] (by kernel_rfl) ?_
  refine wS_end (by rfl) ?_
  refine eX_then ?_
  obtain ⟨r45, hr46, hm⟩ := bindE hm
  have hm47 := hm
  refine cW_cut (fun a' w' => Sum.inl (()) = r45 ∧ Fr 19 [] a' ∧ Chg [] w0 w' ∧ w0.heap.size ≤ w'.heap.size) ?_ ?_
  · refine cW_block ?_
    refine cW_loop _ (fun (s48 : Int) a' w' => ∃ x38 : Int, x38 = s48 ∧ Fr 19 [(0, .slice A0 (l0).length cap0), (1, .func (.func 94) #[] #[.pointer (some ⟨b1_0, 0, none⟩), .pointer (some ⟨b1_1, 0, none⟩), .pointer (some ⟨b1_2, 0, none⟩)]), (7, .int .i64 (((l0).length : Int))), (8, .int .i64 (x38))] a' ∧ Sl 1 encI w' fp0 A0 l0 ∧ Cl w' b1_0 3 [.int .i64 (q1_0_0)] ∧ Sl 1 encI w' fp1_1_0 A1_1_0 l1_1_0 ∧ Cl w' b1_1 25 [.slice A1_1_0 (l1_1_0).length cap1_1_0] ∧ Cl w' b1_2 2 [.int .i64 (q1_2_0)] ∧ Chg [] w0 w' ∧ w0.heap.size ≤ w'.heap.size) hr46 (fun hst => ⟨0, rfl, Fr.of hst (by kernel_rfl), F0, F1_0, F1_1_0, F1_1, F1_2, hB, hZ⟩) ?_
    rintro _ c49 a' w37 ⟨x38, rfl, hF39, F40, F41, F42, F43, F44, hB, hZ⟩ hx50
    refine Fr.goOn hF39 (by kernel_rfl) ?_
    have hm := hx50
    unfold m_slices_IndexFunc_int_int_impl_Wiring_best_1_1_bint_bint64_bint64_s1 at hm
    refine cW_seq ?_
    refine cW_region ?_
    refine wS_pure 1 [(9, .bool (decide (x38 < (((l0).length : Int)))))] (by kernel_rfl) ?_
    refine wS_end (by rfl) ?_
    refine eX_then ?_
    refine cW_seq ?_
    refine cW_cond (t := decide (x38 < (((l0).length : Int)))) (by kernel_rfl) (fun hb51 => ?_) (fun hb51 => ?_)
    · have hm := condT hb51 hm
      refine cW_skip ?_
      refine eX_then ?_
      refine cW_seq ?_
      refine cW_block ?_
      refine cW_seq ?_
      refine cW_region ?_
      refine wS_pure 2 [(5, .int .i64 (x38)), (10, .int .i64 (x38))] (by kernel_rfl) ?_
      refine wS_end (by rfl) ?_
      refine eX_then ?_
      refine cW_seq ?_
      refine cW_region ?_
      refine wS_pure 3 [(13, .int .i64 (x38)), (12, .slice A0 (l0).length cap0), (11, .func (.func 94) #[] #[.pointer (some ⟨b1_0, 0, none⟩), .pointer (some ⟨b1_1, 0, none⟩), .pointer (some ⟨b1_2, 0, none⟩)])] (by kernel_rfl) ?_
      obtain ⟨x52, hx53, hm⟩ := bindE hm
      refine wS_idx (d := 14) (T := 75) (A := A0) (n := (l0).length) (cap := cap0) (kd := .i64) (m := x38) (by kernel_rfl) sl75 (F40.is hx53) ?_
      refine wS_load1 (d := 15) (T := 3) (ad := (elA A0 1 (x38) 0)) (v := .int .i64 (x52)) (by kernel_rfl) vt3 (Sl.cell F40 hx53 0 (by rfl)) ?_
      obtain ⟨y54, hy55, hm⟩ := bindE hm
      refine wS_calls (d := 16) (f := 94) (vs := [.int .i64 (x52), .pointer (some ⟨b1_0, 0, none⟩), .pointer (some ⟨b1_1, 0, none⟩), .pointer (some ⟨b1_2, 0, none⟩)]) (by kernel_rfl) ent94 (c_impl_Wiring_best_1_1_bint_bint64_bint64 hy55 F41 F42 F43 F44) ?_
      rintro _ w56 ⟨rfl, hc57⟩
      replace F40 := F40.chg hc57 Dj.nil
      replace F41 := F41.chg hc57 notNil
      replace F42 := F42.chg hc57 Dj.nil
      replace F43 := F43.chg hc57 notNil
      replace F44 := F44.chg hc57 notNil
      replace hB := hB.inS hc57 inNil
      replace hZ := Nat.le_trans hZ hc57.size
      refine ⟨.bool (y54), rfl, ?_⟩
      refine wS_end (by rfl) ?_
      refine eX_then ?_
      refine cW_cond (t := y54) (by kernel_rfl) (fun hb58 => ?_) (fun hb58 => ?_)
      · have hm := condT hb58 hm
        refine cW_seq ?_
        refine cW_region ?_
        refine wS_pure 2 [(4, .int .i64 (x38)), (17, .int .i64 (x38))] (by kernel_rfl) ?_
        refine wS_end (by rfl) ?_
        refine eX_then ?_
        refine cW_ret ?_
        refine eX_block_ret ?_
        refine eX_then_ret ?_
        have hq : (some (Ctl.out (Sum.inr x38)) : Option (Ctl (Int) (Sum (Unit) ((Int))))) = some _ := hm
        replace hq := someE hq
        subst hq
        refine eX_outR hx50 (fun hr => ?_)
        subst hr
        refine eX_block_ret ?_
        refine eX_then_ret ?_
        refine eX_then_ret ?_
        have hq : (some x38 : Option ((Int))) = some _ := hm47
        replace hq := someE hq
        subst hq
        refine eX_ret (vs := [.int .i64 (x38)]) [.tmp 4] (by rfl) ⟨by (show lkE _ _ _ = _); kernel_rfl, trivial⟩ ?_
        exact ⟨rfl, hB⟩
      · have hm := condF hb58 hm
        refine cW_skip ?_
        refine eX_block ?_
        refine eX_then ?_
        refine cW_region ?_
        refine wS_pure 2 [(8, .int .i64 (wr (x38 + 1))), (18, .int .i64 (wr (x38 + 1)))] (by kernel_rfl) ?_
        refine wS_end (by rfl) ?_
        have hq : (some (Ctl.next (wr (x38 + 1))) : Option (Ctl (Int) (Sum (Unit) ((Int))))) = some _ := hm
        replace hq := someE hq
        subst hq
        exact eX_next hx50 (fun hst => ⟨wr (x38 + 1), rfl, Fr.of hst (by kernel_rfl), F40, F41, F42, F43, F44, hB, hZ⟩)
    · have hm := condF hb51 hm
      refine cW_exit ?_
      refine eX_then_exit ?_
      have hq : (some (Ctl.out (Sum.inl (()))) : Option (Ctl (Int) (Sum (Unit) ((Int))))) = some _ := hm
      replace hq := someE hq
      subst hq
      refine eX_outX hx50 (fun hr59 => ?_)
      replace hr59 := hr59.symm
      subst hr59
      refine eX_block_hit ?_
      exact eX_J (fun hst => ⟨rfl, Fr.of hst (by kernel_rfl), hB, hZ⟩)
  · rintro a' w35 ⟨hJ, hF36, hB, hZ⟩
    subst hJ
    refine Fr.goX hF36 (by kernel_rfl) ?_
    refine eX_then ?_
    refine cW_seq ?_
    refine cW_region ?_
    refine wS_pure 1 [(4, .int .i64 ((-1)))] (by kernel_rfl) ?_
    refine wS_end (by rfl) ?_
    refine eX_then ?_
    refine cW_ret ?_
    have hq : (some ((-1)) : Option ((Int))) = some _ := hm
    replace hq := someE hq
    subst hq
    refine eX_ret (vs := [.int .i64 ((-1))]) [.tmp 4] (by rfl) ⟨by (show lkE _ _ _ = _); kernel_rfl, trivial⟩ ?_
    exact ⟨rfl, hB⟩

set_option maxRecDepth 100000 in
/-- slices.ContainsFunc[[]int,int] -/
theorem c_slices_ContainsFunc_int_int_impl_Wiring_best_1_1_bint_bint64_bint64 {w0 : World} {l0 : List (Int)} {A0 : Option Addr} {cap0 : Nat} {fp0 : List Nat} {q1_0_0 : Int} {b1_0 : Nat} {l1_1_0 : List (Int)} {A1_1_0 : Option Addr} {cap1_1_0 : Nat} {fp1_1_0 : List Nat} {b1_1 : Nat} {q1_2_0 : Int} {b1_2 : Nat} {r : (Bool)} (hm : m_slices_ContainsFunc_int_int_impl_Wiring_best_1_1_bint_bint64_bint64 l0 q1_0_0 l1_1_0 q1_2_0 = some r) (F0 : Sl 1 encI w0 fp0 A0 l0) (F1_0 : Cl w0 b1_0 3 [.int .i64 (q1_0_0)]) (F1_1_0 : Sl 1 encI w0 fp1_1_0 A1_1_0 l1_1_0) (F1_1 : Cl w0 b1_1 25 [.slice A1_1_0 (l1_1_0).length cap1_1_0]) (F1_2 : Cl w0 b1_2 2 [.int .i64 (q1_2_0)]) :
    Calls Try.prog 93 #[.slice A0 (l0).length cap0, .func (.func 94) #[] #[.pointer (some ⟨b1_0, 0, none⟩), .pointer (some ⟨b1_1, 0, none⟩), .pointer (some ⟨b1_2, 0, none⟩)]] w0 fun e w' => e = .returned (.bool (r)) ∧ Chg [] w0 w' := by
  have L0 := F0.low
  have L1_0 := lt1 F1_0.lt
  have L1_1_0 := F1_1_0.low
  have L1_1 := lt1 F1_1.lt
  have L1_2 := lt1 F1_2.lt
  have hB : Chg [] w0 w0 := Chg.refl _ _
  have hZ := Nat.le_refl w0.heap.size
  unfold m_slices_ContainsFunc_int_int_impl_Wiring_best_1_1_bint_bint64_bint64 at hm
  refine enterE (N := 9) Try.func93 (by rfl) Try.ntmps93 (by simp) [(0, .slice A0 (l0).length cap0), (1, .func (.func 94) #[] #[.pointer (some ⟨b1_0, 0, none⟩), .pointer (some ⟨b1_1, 0, none⟩), .pointer (some ⟨b1_2, 0, none⟩)])] (by rfl) (by kernel_rfl) (fun a => ?_)
  refine cW_seq ?_
  refine cW_region ?_
  refine wS_pure 1 [(4, .bool (false))] (by kernel_rfl) ?_
  refine wS_end (by rfl) ?_
  refine eX_then ?_
  refine cW_seq ?_
  refine cW_region ?_
  refine wS_pure 2 [(6, .func (.func 94) #[] #[.pointer (some ⟨b1_0, 0, none⟩), .pointer (some ⟨b1_1, 0, none⟩), .pointer (some ⟨b1_2, 0, none⟩)]), (5, .slice A0 (l0).length cap0)] (by kernel_rfl) ?_
  obtain ⟨y6, hy7, hm⟩ := bindE hm
  refine wS_calls (d := 7) (f := 114) (vs := [.slice A0 (l0).length cap0, .func (.func 94) #[] #[.pointer (some ⟨b1_0, 0, none⟩), .pointer (some ⟨b1_1, 0, none⟩), .pointer (some ⟨b1_2, 0, none⟩)]]) (by kernel_rfl) ent114 (c_slices_IndexFunc_int_int_impl_Wiring_best_1_1_bint_bint64_bint64 hy7 F0 F1_0 F1_1_0 F1_1 F1_2) ?_
  rintro _ w8 ⟨rfl, hc9⟩
  replace F0 := F0.chg hc9 Dj.nil
  replace F1_0 := F1_0.chg hc9 notNil
  replace F1_1_0 := F1_1_0.chg hc9 Dj.nil
  replace F1_1 := F1_1.chg hc9 notNil
  replace F1_2 := F1_2.chg hc9 notNil
  replace hB := hB.inS hc9 inNil
  replace hZ := Nat.le_trans hZ hc9.size
  refine ⟨.int .i64 (y6), rfl, ?_⟩
  refine wS_pure 2 [(4, .bool (decide (y6 ≥ 0))), (8, .bool (decide (y6 ≥ 0)))] (by kernel_rfl) ?_
  refine wS_end (by rfl) ?_
  refine eX_then ?_
  refine cW_ret ?_
  have hq : (some (decide (y6 ≥ 0)) : Option ((Bool))) = some _ := hm
  replace hq := someE hq
  subst hq
  refine eX_ret (vs := [.bool (decide (y6 ≥ 0))]) [.tmp 4] (by rfl) ⟨by (show lkE _ _ _ = _); kernel_rfl, trivial⟩ ?_
  exact ⟨rfl, hB⟩

end Go.Proofs.Ytngnljnfbfgfeaa
