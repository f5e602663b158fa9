/- Printed walks: impl.in, laws.szInt64S, laws.szInt64SS, laws.szWiring, spec.l00In, spec.l03Less, spec.l07Lists, spec.l07Is, spec.ValidWiring, laws.toInt64S, laws.toInt64SS, laws.toWiring, cmp.isNaN[int64], cmp.Compare[int64], slices.Compare[[]int64,int64], impl.ValidWiring$1, impl.ValidWiring$2, (*impl.Wiring).pairsOk, slices.IndexFunc[[][]int64,[]int64], slices.ContainsFunc[[][]int64,[]int64], slices.IndexFunc[[]int64,int64], slices.ContainsFunc[[]int64,int64], impl.ValidWiring, laws.eqInt64S, laws.eqInt64SS. -/
import Derived.Test.YtajnjbmniobjhaaProg
import Derived.Test.YtajnjbmniobjhaaMod
import Derived.Test.YtajnjbmniobjhaaEqs
set_option linter.unusedSimpArgs false
set_option linter.unusedVariables false
namespace Go.Proofs.Ytajnjbmniobjhaa
open Go.RowKit
attribute [local irreducible] wS cW eX wH

theorem ent47 : Ent Try.prog 47 := fun _ => by kernel_rfl
theorem ent48 : Ent Try.prog 48 := fun _ => by kernel_rfl
theorem ent77 : Ent Try.prog 77 := fun _ => by kernel_rfl
theorem ent80 : Ent Try.prog 80 := fun _ => by kernel_rfl
theorem ent81 : Ent Try.prog 81 := fun _ => by kernel_rfl
theorem ent82 : Ent Try.prog 82 := fun _ => by kernel_rfl
theorem ent83 : Ent Try.prog 83 := fun _ => by kernel_rfl
theorem ent84 : Ent Try.prog 84 := fun _ => by kernel_rfl
theorem ent85 : Ent Try.prog 85 := fun _ => by kernel_rfl
theorem ent86 : Ent Try.prog 86 := fun _ => by kernel_rfl
theorem ent87 : Ent Try.prog 87 := fun _ => by kernel_rfl
theorem ent88 : Ent Try.prog 88 := fun _ => by kernel_rfl
theorem ent118 : Ent Try.prog 118 := fun _ => by kernel_rfl
theorem ent123 : Ent Try.prog 123 := fun _ => by kernel_rfl
theorem ent124 : Ent Try.prog 124 := fun _ => by kernel_rfl
theorem ent125 : Ent Try.prog 125 := fun _ => by kernel_rfl
theorem ent126 : Ent Try.prog 126 := fun _ => by kernel_rfl
theorem ent151 : Ent Try.prog 151 := fun _ => by kernel_rfl
theorem ent152 : Ent Try.prog 152 := fun _ => by kernel_rfl
theorem ent162 : Ent Try.prog 162 := fun _ => by kernel_rfl
theorem vt2 : VarTy Try.prog 2 1 false := ⟨by kernel_rfl, by kernel_rfl⟩
theorem vt37 : VarTy Try.prog 37 1 false := ⟨by kernel_rfl, by kernel_rfl⟩
theorem vt38 : VarTy Try.prog 38 1 false := ⟨by kernel_rfl, by kernel_rfl⟩
theorem vt43 : VarTy Try.prog 43 4 true := ⟨by kernel_rfl, by kernel_rfl⟩
theorem sl37 : SlTy Try.prog 37 38 1 := ⟨Try.underlying37, by kernel_rfl⟩
theorem sl38 : SlTy Try.prog 38 2 1 := ⟨Try.underlying38, by kernel_rfl⟩
theorem el37 : ElTy Try.prog 37 38 1 (.slice none 0 0) := ElTy.mk' Try.underlying37 (by kernel_rfl) (by rfl)
theorem el38 : ElTy Try.prog 38 2 1 (.int .i64 (0)) := ElTy.mk' Try.underlying38 (by kernel_rfl) (by rfl)
theorem sz2 : pureRun Try.prog (sizeOf 2) = some 1 := by kernel_rfl
theorem sz37 : pureRun Try.prog (sizeOf 37) = some 1 := by kernel_rfl
theorem sz38 : pureRun Try.prog (sizeOf 38) = some 1 := by kernel_rfl
theorem sz43 : pureRun Try.prog (sizeOf 43) = some 4 := by kernel_rfl

set_option maxRecDepth 100000 in
/-- impl.in -/
theorem c_impl_in {w0 : World} {p0 : Int} {p1 : Int} {p2 : Int} {r : (Bool)} (hm : m_impl_in p0 p1 p2 = some r)  :
    Calls Try.prog 77 #[.int .i64 (p0), .int .i64 (p1), .int .i64 (p2)] w0 fun e w' => e = .returned (.bool (r)) ∧ Chg [] w0 w' := by
  have hB : Chg [] w0 w0 := Chg.refl _ _
  have hZ := Nat.le_refl w0.heap.size
  unfold m_impl_in at hm
  refine enterE (N := 15) Try.func77 (by rfl) Try.ntmps77 (by simp) [(0, .int .i64 (p0)), (1, .int .i64 (p1)), (2, .int .i64 (p2))] (by rfl) (by kernel_rfl) (fun a => ?_)
  refine cW_seq ?_
  refine cW_region ?_
  refine wS_pure 1 [(6, .bool (false))] (by kernel_rfl) ?_
  refine wS_end (by rfl) ?_
  refine eX_then ?_
  refine cW_seq ?_
  refine cW_region ?_
  refine wS_pure 4 [(10, .bool (decide (p0 ≥ p1))), (9, .bool (decide (p0 ≥ p1))), (8, .int .i64 (p1)), (7, .int .i64 (p0))] (by kernel_rfl) ?_
  refine wS_bool (decide (p0 ≥ p1)) (fun hb1 => ?_) (fun hb1 => ?_)
  · have hm := condT hb1 hm
    rewrite [hb1]
    refine wS_pure 5 [(6, .bool (decide (p0 ≤ p2))), (14, .bool (decide (p0 ≤ p2))), (13, .bool (decide (p0 ≤ p2))), (12, .int .i64 (p2)), (11, .int .i64 (p0))] (by kernel_rfl) ?_
    refine wS_end (by rfl) ?_
    refine eX_then ?_
    refine cW_ret ?_
    have hq : (some (decide (p0 ≤ p2)) : Option ((Bool))) = some _ := hm
    replace hq := someE hq
    subst hq
    refine eX_ret (vs := [.bool (decide (p0 ≤ p2))]) [.tmp 6] (by rfl) ⟨by (show lkE _ _ _ = _); kernel_rfl, trivial⟩ ?_
    exact ⟨rfl, hB⟩
  · have hm := condF hb1 hm
    rewrite [hb1]
    refine wS_pure 5 [(6, .bool (false)), (14, .bool (false)), (13, undef), (12, undef), (11, undef)] (by kernel_rfl) ?_
    refine wS_end (by rfl) ?_
    refine eX_then ?_
    refine cW_ret ?_
    have hq : (some false : Option ((Bool))) = some _ := hm
    replace hq := someE hq
    subst hq
    refine eX_ret (vs := [.bool (false)]) [.tmp 6] (by rfl) ⟨by (show lkE _ _ _ = _); kernel_rfl, trivial⟩ ?_
    exact ⟨rfl, hB⟩

set_option maxRecDepth 100000 in
/-- laws.szInt64S -/
theorem c_laws_szInt64S {w0 : World} {l0 : List (Int)} {A0 : Option Addr} {cap0 : Nat} {fp0 : List Nat} {p1 : Int} {r : (Int)} (hm : m_laws_szInt64S l0 p1 = some r) (F0 : Sl 1 encI w0 fp0 A0 l0) :
    Calls Try.prog 81 #[.slice A0 (l0).length cap0, .int .i64 (p1)] w0 fun e w' => e = .returned (.int .i64 (r)) ∧ Chg [] w0 w' := by
  have L0 := F0.low
  have hB : Chg [] w0 w0 := Chg.refl _ _
  have hZ := Nat.le_refl w0.heap.size
  unfold m_laws_szInt64S at hm
  refine enterE (N := 12) Try.func81 (by rfl) Try.ntmps81 (by simp) [(0, .slice A0 (l0).length cap0), (1, .int .i64 (p1))] (by rfl) (by kernel_rfl) (fun a => ?_)
  refine cW_seq ?_
  refine cW_region ?_
  refine wS_pure 1 [(4, .int .i64 (0))] (by kernel_rfl) ?_
  refine wS_end (by rfl) ?_
  refine eX_then ?_
  refine cW_seq ?_
  refine cW_region ?_
  refine wS_pure 5 [(1, .int .i64 (wr (p1 - (((l0).length : Int))))), (8, .int .i64 (wr (p1 - (((l0).length : Int))))), (7, .int .i64 (((l0).length : Int))), (6, .slice A0 (l0).length cap0), (5, .int .i64 (p1))] (by kernel_rfl) ?_
  refine wS_end (by rfl) ?_
  refine eX_then ?_
  refine cW_seq ?_
  refine cW_seq ?_
  refine cW_region ?_
  refine wS_pure 2 [(10, .bool (decide ((wr (p1 - (((l0).length : Int)))) < 0))), (9, .int .i64 (wr (p1 - (((l0).length : Int)))))] (by kernel_rfl) ?_
  refine wS_end (by rfl) ?_
  refine eX_then ?_
  refine cW_cond (t := decide ((wr (p1 - (((l0).length : Int)))) < 0)) (by kernel_rfl) (fun hb2 => ?_) (fun hb2 => ?_)
  · have hm := condT hb2 hm
    refine cW_seq ?_
    refine cW_region ?_
    refine wS_pure 1 [(4, .int .i64 ((-1)))] (by kernel_rfl) ?_
    refine wS_end (by rfl) ?_
    refine eX_then ?_
    refine cW_ret ?_
    refine eX_then_ret ?_
    have hq : (some ((-1)) : Option ((Int))) = some _ := hm
    replace hq := someE hq
    subst hq
    refine eX_ret (vs := [.int .i64 ((-1))]) [.tmp 4] (by rfl) ⟨by (show lkE _ _ _ = _); kernel_rfl, trivial⟩ ?_
    exact ⟨rfl, hB⟩
  · have hm := condF hb2 hm
    refine cW_skip ?_
    refine eX_then ?_
    refine cW_seq ?_
    refine cW_region ?_
    refine wS_pure 2 [(4, .int .i64 (wr (p1 - (((l0).length : Int))))), (11, .int .i64 (wr (p1 - (((l0).length : Int)))))] (by kernel_rfl) ?_
    refine wS_end (by rfl) ?_
    refine eX_then ?_
    refine cW_ret ?_
    have hq : (some (wr (p1 - (((l0).length : Int)))) : Option ((Int))) = some _ := hm
    replace hq := someE hq
    subst hq
    refine eX_ret (vs := [.int .i64 (wr (p1 - (((l0).length : Int))))]) [.tmp 4] (by rfl) ⟨by (show lkE _ _ _ = _); kernel_rfl, trivial⟩ ?_
    exact ⟨rfl, hB⟩

set_option maxRecDepth 100000 in
/-- laws.szInt64SS -/
theorem c_laws_szInt64SS {w0 : World} {l0 : List (List (Int))} {A0 : Option Addr} {cap0 : Nat} {fp0 : List Nat} {p1 : Int} {r : (Int)} (hm : m_laws_szInt64SS l0 p1 = some r) (F0 : SlR 1 encI w0 fp0 A0 l0) :
    Calls Try.prog 80 #[.slice A0 (l0).length cap0, .int .i64 (p1)] w0 fun e w' => e = .returned (.int .i64 (r)) ∧ Chg [] w0 w' := by
  have L0 := F0.low
  have hB : Chg [] w0 w0 := Chg.refl _ _
  have hZ := Nat.le_refl w0.heap.size
  unfold m_laws_szInt64SS at hm
  refine enterE (N := 27) Try.func80 (by rfl) Try.ntmps80 (by simp) [(0, .slice A0 (l0).length cap0), (1, .int .i64 (p1))] (by rfl) (by kernel_rfl) (fun a => ?_)
  refine cW_seq ?_
  refine cW_region ?_
  refine wS_pure 1 [(4, .int .i64 (0))] (by kernel_rfl) ?_
  refine wS_end (by rfl) ?_
  refine eX_then ?_
  refine cW_seq ?_
  refine cW_region ?_
  refine wS_pure 5 [(1, .int .i64 (wr (p1 - (((l0).length : Int))))), (9, .int .i64 (wr (p1 - (((l0).length : Int))))), (8, .int .i64 (((l0).length : Int))), (7, .slice A0 (l0).length cap0), (6, .int .i64 (p1))] (by kernel_rfl) ?_
  refine wS_end (by rfl) ?_
  refine eX_then ?_
  refine cW_seq ?_
  refine cW_seq ?_
  refine cW_region ?_
  refine wS_pure 2 [(11, .bool (decide ((wr (p1 - (((l0).length : Int)))) < 0))), (10, .int .i64 (wr (p1 - (((l0).length : Int)))))] (by kernel_rfl) ?_
  refine wS_end (by rfl) ?_
  refine eX_then ?_
  refine cW_cond (t := decide ((wr (p1 - (((l0).length : Int)))) < 0)) (by kernel_rfl) (fun hb2 => ?_) (fun hb2 => ?_)
  · have hm := condT hb2 hm
    refine cW_seq ?_
    refine cW_region ?_
    refine wS_pure 1 [(4, .int .i64 ((-1)))] (by kernel_rfl) ?_
    refine wS_end (by rfl) ?_
    refine eX_then ?_
    refine cW_ret ?_
    refine eX_then_ret ?_
    have hq : (some ((-1)) : Option ((Int))) = some _ := hm
    replace hq := someE hq
    subst hq
    refine eX_ret (vs := [.int .i64 ((-1))]) [.tmp 4] (by rfl) ⟨by (show lkE _ _ _ = _); kernel_rfl, trivial⟩ ?_
    exact ⟨rfl, hB⟩
  · have hm := condF hb2 hm
    refine cW_skip ?_
    refine eX_then ?_
    refine cW_seq ?_
    refine cW_seq ?_
    refine cW_region ?_
    refine wS_pure 1 [(5, .int .i64 (0))] (by kernel_rfl) ?_
    refine wS_end (by rfl) ?_
    refine eX_then ?_
    obtain ⟨r45, hr46, hm⟩ := bindE hm
    have hm47 := hm
    refine cW_cut (fun a' w' => ∃ x38 : Int, Sum.inl x38 = r45 ∧ Fr 27 [(1, .int .i64 (x38))] a' ∧ Chg [] w0 w' ∧ w0.heap.size ≤ w'.heap.size) ?_ ?_
    · refine cW_block ?_
      refine cW_loop _ (fun (s48 : Int × Int) a' w' => ∃ x41 : Int, ∃ x42 : Int, (x41, x42) = s48 ∧ Fr 27 [(0, .slice A0 (l0).length cap0), (1, .int .i64 (x41)), (5, .int .i64 (x42))] a' ∧ SlR 1 encI w' fp0 A0 l0 ∧ Chg [] w0 w' ∧ w0.heap.size ≤ w'.heap.size) hr46 (fun hst => ⟨wr (p1 - (((l0).length : Int))), 0, rfl, Fr.of hst (by kernel_rfl), F0, hB, hZ⟩) ?_
      rintro _ c49 a' w40 ⟨x41, x42, rfl, hF43, F44, hB, hZ⟩ hx50
      refine Fr.goOn hF43 (by kernel_rfl) ?_
      have hm := hx50
      unfold m_laws_szInt64SS_s1 at hm
      refine cW_seq ?_
      refine cW_seq ?_
      refine cW_region ?_
      refine wS_pure 4 [(15, .bool (decide (x42 < (((l0).length : Int))))), (14, .int .i64 (((l0).length : Int))), (13, .slice A0 (l0).length cap0), (12, .int .i64 (x42))] (by kernel_rfl) ?_
      refine wS_end (by rfl) ?_
      refine eX_then ?_
      refine cW_cond (t := decide (x42 < (((l0).length : Int)))) (by kernel_rfl) (fun hb51 => ?_) (fun hb51 => ?_)
      · have hm := condT hb51 hm
        refine cW_skip ?_
        refine eX_then ?_
        refine cW_seq ?_
        refine cW_block ?_
        refine cW_seq ?_
        refine cW_region ?_
        refine wS_pure 2 [(19, .int .i64 (x42)), (18, .slice A0 (l0).length cap0)] (by kernel_rfl) ?_
        obtain ⟨x52, hx53, hm⟩ := bindE hm
        refine wS_idx (d := 20) (T := 37) (A := A0) (n := (l0).length) (cap := cap0) (kd := .i64) (m := x42) (by kernel_rfl) sl37 (F44.is hx53) ?_
        obtain ⟨A54, cap55, hc57, F56, K58⟩ := SlR.row F44 hx53
        refine wS_load1 (d := 21) (T := 38) (ad := (elA A0 1 (x42) 0)) (v := .slice A54 (x52).length cap55) (by kernel_rfl) vt38 hc57 ?_
        refine wS_pure 1 [(22, .int .i64 (x41))] (by kernel_rfl) ?_
        obtain ⟨y60, hy61, hm⟩ := bindE hm
        refine wS_calls (d := 23) (f := 81) (vs := [.slice A54 (x52).length cap55, .int .i64 (x41)]) (by kernel_rfl) ent81 (c_laws_szInt64S hy61 F56) ?_
        rintro _ w62 ⟨rfl, hc63⟩
        replace F44 := F44.chg hc63 Dj.nil
        replace F56 := F56.chg hc63 Dj.nil
        replace hB := hB.inS hc63 inNil
        replace hZ := Nat.le_trans hZ hc63.size
        refine ⟨.int .i64 (y60), rfl, ?_⟩
        refine wS_pure 1 [(1, .int .i64 (y60))] (by kernel_rfl) ?_
        refine wS_end (by rfl) ?_
        refine eX_then ?_
        refine cW_seq ?_
        refine cW_region ?_
        refine wS_pure 2 [(25, .bool (decide (y60 < 0))), (24, .int .i64 (y60))] (by kernel_rfl) ?_
        refine wS_end (by rfl) ?_
        refine eX_then ?_
        refine cW_cond (t := decide (y60 < 0)) (by kernel_rfl) (fun hb64 => ?_) (fun hb64 => ?_)
        · have hm := condT hb64 hm
          refine cW_seq ?_
          refine cW_region ?_
          refine wS_pure 1 [(4, .int .i64 ((-1)))] (by kernel_rfl) ?_
          refine wS_end (by rfl) ?_
          refine eX_then ?_
          refine cW_ret ?_
          refine eX_block_ret ?_
          refine eX_then_ret ?_
          have hq : (some (Ctl.out (Sum.inr ((-1)))) : Option (Ctl (Int × Int) (Sum (Int) ((Int))))) = some _ := hm
          replace hq := someE hq
          subst hq
          refine eX_outR hx50 (fun hr => ?_)
          subst hr
          refine eX_block_ret ?_
          refine eX_then_ret ?_
          refine eX_then_ret ?_
          have hq : (some ((-1)) : Option ((Int))) = some _ := hm47
          replace hq := someE hq
          subst hq
          refine eX_ret (vs := [.int .i64 ((-1))]) [.tmp 4] (by rfl) ⟨by (show lkE _ _ _ = _); kernel_rfl, trivial⟩ ?_
          exact ⟨rfl, hB⟩
        · have hm := condF hb64 hm
          refine cW_skip ?_
          refine eX_block ?_
          refine eX_then ?_
          refine cW_region ?_
          refine wS_pure 3 [(5, .int .i64 (wr (x42 + 1))), (17, .int .i64 (wr (x42 + 1))), (16, .int .i64 (x42))] (by kernel_rfl) ?_
          refine wS_end (by rfl) ?_
          have hq : (some (Ctl.next ((y60, wr (x42 + 1)))) : Option (Ctl (Int × Int) (Sum (Int) ((Int))))) = some _ := hm
          replace hq := someE hq
          subst hq
          exact eX_next hx50 (fun hst => ⟨y60, wr (x42 + 1), rfl, Fr.of hst (by kernel_rfl), F44, hB, hZ⟩)
      · have hm := condF hb51 hm
        refine cW_exit ?_
        refine eX_then_exit ?_
        have hq : (some (Ctl.out (Sum.inl x41)) : Option (Ctl (Int × Int) (Sum (Int) ((Int))))) = some _ := hm
        replace hq := someE hq
        subst hq
        refine eX_outX hx50 (fun hr65 => ?_)
        replace hr65 := hr65.symm
        subst hr65
        refine eX_block_hit ?_
        exact eX_J (fun hst => ⟨x41, rfl, Fr.of hst (by kernel_rfl), hB, hZ⟩)
    · rintro a' w37 ⟨x38, hJ, hF39, hB, hZ⟩
      subst hJ
      refine Fr.goX hF39 (by kernel_rfl) ?_
      refine eX_then ?_
      refine cW_seq ?_
      refine cW_region ?_
      refine wS_pure 2 [(4, .int .i64 (x38)), (26, .int .i64 (x38))] (by kernel_rfl) ?_
      refine wS_end (by rfl) ?_
      refine eX_then ?_
      refine cW_ret ?_
      have hq : (some x38 : Option ((Int))) = some _ := hm
      replace hq := someE hq
      subst hq
      refine eX_ret (vs := [.int .i64 (x38)]) [.tmp 4] (by rfl) ⟨by (show lkE _ _ _ = _); kernel_rfl, trivial⟩ ?_
      exact ⟨rfl, hB⟩

set_option maxRecDepth 100000 in
/-- laws.szWiring -/
theorem c_laws_szWiring {w0 : World} {p0_0 : Int} {l0_1 : List (List (Int))} {A0_1 : Option Addr} {cap0_1 : Nat} {fp0_1 : List Nat} {l0_2 : List (List (Int))} {A0_2 : Option Addr} {cap0_2 : Nat} {fp0_2 : List Nat} {l0_3 : List (Int)} {A0_3 : Option Addr} {cap0_3 : Nat} {fp0_3 : List Nat} {p1 : Int} {r : (Int)} (hm : m_laws_szWiring p0_0 l0_1 l0_2 l0_3 p1 = some r) (F0_1 : SlR 1 encI w0 fp0_1 A0_1 l0_1) (F0_2 : SlR 1 encI w0 fp0_2 A0_2 l0_2) (F0_3 : Sl 1 encI w0 fp0_3 A0_3 l0_3) :
    Calls Try.prog 24 #[.agg #[.int .i64 (p0_0), .slice A0_1 (l0_1).length cap0_1, .slice A0_2 (l0_2).length cap0_2, .slice A0_3 (l0_3).length cap0_3], .int .i64 (p1)] w0 fun e w' => e = .returned (.int .i64 (r)) ∧ Chg [] w0 w' := by
  have L0_1 := F0_1.low
  have L0_2 := F0_2.low
  have L0_3 := F0_3.low
  have hB : Chg [] w0 w0 := Chg.refl _ _
  have hZ := Nat.le_refl w0.heap.size
  unfold m_laws_szWiring at hm
  refine enterE (N := 24) Try.func24 (by rfl) Try.ntmps24 (by simp) [(0, .agg #[.int .i64 (p0_0), .slice A0_1 (l0_1).length cap0_1, .slice A0_2 (l0_2).length cap0_2, .slice A0_3 (l0_3).length cap0_3]), (1, .int .i64 (p1))] (by rfl) (by kernel_rfl) (fun a => ?_)
  refine cW_seq ?_
  refine cW_region ?_
  refine wS_box (d := 2) (T := 40) (x := .agg #[.int .i64 (p0_0), .slice A0_1 (l0_1).length cap0_1, .slice A0_2 (l0_2).length cap0_2, .slice A0_3 (l0_3).length cap0_3]) (by kernel_rfl) ?_
  intro b4 w5 G6 F7 hc8
  replace F7 : Cl w5 b4 40 [.int .i64 (p0_0), .slice A0_1 (l0_1).length cap0_1, .slice A0_2 (l0_2).length cap0_2, .slice A0_3 (l0_3).length cap0_3] := F7
  replace F0_1 := F0_1.chg hc8 Dj.nil
  replace F0_2 := F0_2.chg hc8 Dj.nil
  replace F0_3 := F0_3.chg hc8 Dj.nil
  replace hB := hB.inS hc8 inNil
  replace G6 := Nat.le_trans hZ G6
  replace hZ := Nat.le_trans hZ hc8.size
  refine wS_pure 1 [(4, .int .i64 (0))] (by kernel_rfl) ?_
  refine wS_end (by rfl) ?_
  refine eX_then ?_
  refine cW_seq ?_
  refine cW_region ?_
  refine wS_pure 1 [(5, .pointer (some ⟨b4, 1, none⟩))] (by kernel_rfl) ?_
  refine wS_load1 (d := 6) (T := 37) (ad := ⟨b4, 1, none⟩) (v := .slice A0_1 (l0_1).length cap0_1) (by kernel_rfl) vt37 ((F7).cell 1) ?_
  refine wS_pure 1 [(7, .int .i64 (p1))] (by kernel_rfl) ?_
  obtain ⟨y10, hy11, hm⟩ := bindE hm
  refine wS_calls (d := 8) (f := 80) (vs := [.slice A0_1 (l0_1).length cap0_1, .int .i64 (p1)]) (by kernel_rfl) ent80 (c_laws_szInt64SS hy11 F0_1) ?_
  rintro _ w12 ⟨rfl, hc13⟩
  replace F0_1 := F0_1.chg hc13 Dj.nil
  replace F0_2 := F0_2.chg hc13 Dj.nil
  replace F0_3 := F0_3.chg hc13 Dj.nil
  replace F7 := F7.chg hc13 notNil
  replace hB := hB.inS hc13 inNil
  replace hZ := Nat.le_trans hZ hc13.size
  refine ⟨.int .i64 (y10), rfl, ?_⟩
  refine wS_pure 1 [(1, .int .i64 (y10))] (by kernel_rfl) ?_
  refine wS_end (by rfl) ?_
  refine eX_then ?_
  refine cW_seq ?_
  refine cW_seq ?_
  refine cW_region ?_
  refine wS_pure 2 [(10, .bool (decide (y10 < 0))), (9, .int .i64 (y10))] (by kernel_rfl) ?_
  refine wS_end (by rfl) ?_
  refine eX_then ?_
  refine cW_cond (t := decide (y10 < 0)) (by kernel_rfl) (fun hb14 => ?_) (fun hb14 => ?_)
  · have hm := condT hb14 hm
    refine cW_seq ?_
    refine cW_region ?_
    refine wS_pure 1 [(4, .int .i64 ((-1)))] (by kernel_rfl) ?_
    refine wS_end (by rfl) ?_
    refine eX_then ?_
    refine cW_ret ?_
    refine eX_then_ret ?_
    have hq : (some ((-1)) : Option ((Int))) = some _ := hm
    replace hq := someE hq
    subst hq
    refine eX_ret (vs := [.int .i64 ((-1))]) [.tmp 4] (by rfl) ⟨by (show lkE _ _ _ = _); kernel_rfl, trivial⟩ ?_
    exact ⟨rfl, hB⟩
  · have hm := condF hb14 hm
    refine cW_skip ?_
    refine eX_then ?_
    refine cW_seq ?_
    refine cW_region ?_
    refine wS_pure 1 [(11, .pointer (some ⟨b4, 2, none⟩))] (by kernel_rfl) ?_
    refine wS_load1 (d := 12) (T := 37) (ad := ⟨b4, 2, none⟩) (v := .slice A0_2 (l0_2).length cap0_2) (by kernel_rfl) vt37 ((F7).cell 2) ?_
    refine wS_pure 1 [(13, .int .i64 (y10))] (by kernel_rfl) ?_
    obtain ⟨y15, hy16, hm⟩ := bindE hm
    refine wS_calls (d := 14) (f := 80) (vs := [.slice A0_2 (l0_2).length cap0_2, .int .i64 (y10)]) (by kernel_rfl) ent80 (c_laws_szInt64SS hy16 F0_2) ?_
    rintro _ w17 ⟨rfl, hc18⟩
    replace F0_1 := F0_1.chg hc18 Dj.nil
    replace F0_2 := F0_2.chg hc18 Dj.nil
    replace F0_3 := F0_3.chg hc18 Dj.nil
    replace F7 := F7.chg hc18 notNil
    replace hB := hB.inS hc18 inNil
    replace hZ := Nat.le_trans hZ hc18.size
    refine ⟨.int .i64 (y15), rfl, ?_⟩
    refine wS_pure 1 [(1, .int .i64 (y15))] (by kernel_rfl) ?_
    refine wS_end (by rfl) ?_
    refine eX_then ?_
    refine cW_seq ?_
    refine cW_seq ?_
    refine cW_region ?_
    refine wS_pure 2 [(16, .bool (decide (y15 < 0))), (15, .int .i64 (y15))] (by kernel_rfl) ?_
    refine wS_end (by rfl) ?_
    refine eX_then ?_
    refine cW_cond (t := decide (y15 < 0)) (by kernel_rfl) (fun hb19 => ?_) (fun hb19 => ?_)
    · have hm := condT hb19 hm
      refine cW_seq ?_
      refine cW_region ?_
      refine wS_pure 1 [(4, .int .i64 ((-1)))] (by kernel_rfl) ?_
      refine wS_end (by rfl) ?_
      refine eX_then ?_
      refine cW_ret ?_
      refine eX_then_ret ?_
      have hq : (some ((-1)) : Option ((Int))) = some _ := hm
      replace hq := someE hq
      subst hq
      refine eX_ret (vs := [.int .i64 ((-1))]) [.tmp 4] (by rfl) ⟨by (show lkE _ _ _ = _); kernel_rfl, trivial⟩ ?_
      exact ⟨rfl, hB⟩
    · have hm := condF hb19 hm
      refine cW_skip ?_
      refine eX_then ?_
      refine cW_seq ?_
      refine cW_region ?_
      refine wS_pure 1 [(17, .pointer (some ⟨b4, 3, none⟩))] (by kernel_rfl) ?_
      refine wS_load1 (d := 18) (T := 38) (ad := ⟨b4, 3, none⟩) (v := .slice A0_3 (l0_3).length cap0_3) (by kernel_rfl) vt38 ((F7).cell 3) ?_
      refine wS_pure 1 [(19, .int .i64 (y15))] (by kernel_rfl) ?_
      obtain ⟨y20, hy21, hm⟩ := bindE hm
      refine wS_calls (d := 20) (f := 81) (vs := [.slice A0_3 (l0_3).length cap0_3, .int .i64 (y15)]) (by kernel_rfl) ent81 (c_laws_szInt64S hy21 F0_3) ?_
      rintro _ w22 ⟨rfl, hc23⟩
      replace F0_1 := F0_1.chg hc23 Dj.nil
      replace F0_2 := F0_2.chg hc23 Dj.nil
      replace F0_3 := F0_3.chg hc23 Dj.nil
      replace F7 := F7.chg hc23 notNil
      replace hB := hB.inS hc23 inNil
      replace hZ := Nat.le_trans hZ hc23.size
      refine ⟨.int .i64 (y20), rfl, ?_⟩
      refine wS_pure 1 [(1, .int .i64 (y20))] (by kernel_rfl) ?_
      refine wS_end (by rfl) ?_
      refine eX_then ?_
      refine cW_seq ?_
      refine cW_seq ?_
      refine cW_region ?_
      refine wS_pure 2 [(22, .bool (decide (y20 < 0))), (21, .int .i64 (y20))] (by kernel_rfl) ?_
      refine wS_end (by rfl) ?_
      refine eX_then ?_
      refine cW_cond (t := decide (y20 < 0)) (by kernel_rfl) (fun hb24 => ?_) (fun hb24 => ?_)
      · have hm := condT hb24 hm
        refine cW_seq ?_
        refine cW_region ?_
        refine wS_pure 1 [(4, .int .i64 ((-1)))] (by kernel_rfl) ?_
        refine wS_end (by rfl) ?_
        refine eX_then ?_
        refine cW_ret ?_
        refine eX_then_ret ?_
        have hq : (some ((-1)) : Option ((Int))) = some _ := hm
        replace hq := someE hq
        subst hq
        refine eX_ret (vs := [.int .i64 ((-1))]) [.tmp 4] (by rfl) ⟨by (show lkE _ _ _ = _); kernel_rfl, trivial⟩ ?_
        exact ⟨rfl, hB⟩
      · have hm := condF hb24 hm
        refine cW_skip ?_
        refine eX_then ?_
        refine cW_seq ?_
        refine cW_region ?_
        refine wS_pure 2 [(4, .int .i64 (y20)), (23, .int .i64 (y20))] (by kernel_rfl) ?_
        refine wS_end (by rfl) ?_
        refine eX_then ?_
        refine cW_ret ?_
        have hq : (some y20 : Option ((Int))) = some _ := hm
        replace hq := someE hq
        subst hq
        refine eX_ret (vs := [.int .i64 (y20)]) [.tmp 4] (by rfl) ⟨by (show lkE _ _ _ = _); kernel_rfl, trivial⟩ ?_
        exact ⟨rfl, hB⟩

set_option maxRecDepth 100000 in
/-- spec.l00In -/
theorem c_spec_l00In {w0 : World} {p0 : Int} {p1 : Int} {p2 : Int} {r : (Bool)} (hm : m_spec_l00In p0 p1 p2 = some r)  :
    Calls Try.prog 118 #[.int .i64 (p0), .int .i64 (p1), .int .i64 (p2)] w0 fun e w' => e = .returned (.bool (r)) ∧ Chg [] w0 w' := by
  have hB : Chg [] w0 w0 := Chg.refl _ _
  have hZ := Nat.le_refl w0.heap.size
  unfold m_spec_l00In at hm
  refine enterE (N := 15) Try.func118 (by rfl) Try.ntmps118 (by simp) [(0, .int .i64 (p0)), (1, .int .i64 (p1)), (2, .int .i64 (p2))] (by rfl) (by kernel_rfl) (fun a => ?_)
  refine cW_seq ?_
  refine cW_region ?_
  refine wS_pure 1 [(6, .bool (false))] (by kernel_rfl) ?_
  refine wS_end (by rfl) ?_
  refine eX_then ?_
  refine cW_seq ?_
  refine cW_region ?_
  refine wS_pure 4 [(10, .bool (decide (p0 ≥ p1))), (9, .bool (decide (p0 ≥ p1))), (8, .int .i64 (p1)), (7, .int .i64 (p0))] (by kernel_rfl) ?_
  refine wS_bool (decide (p0 ≥ p1)) (fun hb1 => ?_) (fun hb1 => ?_)
  · have hm := condT hb1 hm
    rewrite [hb1]
    refine wS_pure 5 [(6, .bool (decide (p0 ≤ p2))), (14, .bool (decide (p0 ≤ p2))), (13, .bool (decide (p0 ≤ p2))), (12, .int .i64 (p2)), (11, .int .i64 (p0))] (by kernel_rfl) ?_
    refine wS_end (by rfl) ?_
    refine eX_then ?_
    refine cW_ret ?_
    have hq : (some (decide (p0 ≤ p2)) : Option ((Bool))) = some _ := hm
    replace hq := someE hq
    subst hq
    refine eX_ret (vs := [.bool (decide (p0 ≤ p2))]) [.tmp 6] (by rfl) ⟨by (show lkE _ _ _ = _); kernel_rfl, trivial⟩ ?_
    exact ⟨rfl, hB⟩
  · have hm := condF hb1 hm
    rewrite [hb1]
    refine wS_pure 5 [(6, .bool (false)), (14, .bool (false)), (13, undef), (12, undef), (11, undef)] (by kernel_rfl) ?_
    refine wS_end (by rfl) ?_
    refine eX_then ?_
    refine cW_ret ?_
    have hq : (some false : Option ((Bool))) = some _ := hm
    replace hq := someE hq
    subst hq
    refine eX_ret (vs := [.bool (false)]) [.tmp 6] (by rfl) ⟨by (show lkE _ _ _ = _); kernel_rfl, trivial⟩ ?_
    exact ⟨rfl, hB⟩

set_option maxRecDepth 100000 in
/-- spec.l03Less -/
theorem c_spec_l03Less {w0 : World} {l0 : List (Int)} {A0 : Option Addr} {cap0 : Nat} {fp0 : List Nat} {l1 : List (Int)} {A1 : Option Addr} {cap1 : Nat} {fp1 : List Nat} {r : (Bool)} (hm : m_spec_l03Less l0 l1 = some r) (F0 : Sl 1 encI w0 fp0 A0 l0) (F1 : Sl 1 encI w0 fp1 A1 l1) :
    Calls Try.prog 151 #[.slice A0 (l0).length cap0, .slice A1 (l1).length cap1] w0 fun e w' => e = .returned (.bool (r)) ∧ Chg [] w0 w' := by
  have L0 := F0.low
  have L1 := F1.low
  have hB : Chg [] w0 w0 := Chg.refl _ _
  have hZ := Nat.le_refl w0.heap.size
  unfold m_spec_l03Less at hm
  refine enterE (N := 41) Try.func151 (by rfl) Try.ntmps151 (by simp) [(0, .slice A0 (l0).length cap0), (1, .slice A1 (l1).length cap1)] (by rfl) (by kernel_rfl) (fun a => ?_)
  refine cW_seq ?_
  refine cW_region ?_
  refine wS_pure 1 [(4, .bool (false))] (by kernel_rfl) ?_
  refine wS_end (by rfl) ?_
  refine eX_then ?_
  refine cW_seq ?_
  refine cW_seq ?_
  refine cW_region ?_
  refine wS_pure 1 [(5, .int .i64 (0))] (by kernel_rfl) ?_
  refine wS_end (by rfl) ?_
  refine eX_then ?_
  obtain ⟨r91, hr92, hm⟩ := bindE hm
  have hm93 := hm
  refine cW_cut (fun a' w' => Sum.inl (()) = r91 ∧ Fr 41 [(0, .slice A0 (l0).length cap0), (1, .slice A1 (l1).length cap1)] a' ∧ Sl 1 encI w' fp0 A0 l0 ∧ Sl 1 encI w' fp1 A1 l1 ∧ Chg [] w0 w' ∧ w0.heap.size ≤ w'.heap.size) ?_ ?_
  · refine cW_block ?_
    refine cW_loop _ (fun (s94 : Int) a' w' => ∃ x87 : Int, x87 = s94 ∧ Fr 41 [(0, .slice A0 (l0).length cap0), (1, .slice A1 (l1).length cap1), (5, .int .i64 (x87))] a' ∧ Sl 1 encI w' fp0 A0 l0 ∧ Sl 1 encI w' fp1 A1 l1 ∧ Chg [] w0 w' ∧ w0.heap.size ≤ w'.heap.size) hr92 (fun hst => ⟨0, rfl, Fr.of hst (by kernel_rfl), F0, F1, hB, hZ⟩) ?_
    rintro _ c95 a' w86 ⟨x87, rfl, hF88, F89, F90, hB, hZ⟩ hx96
    refine Fr.goOn hF88 (by kernel_rfl) ?_
    have hm := hx96
    unfold m_spec_l03Less_s1 at hm
    refine cW_seq ?_
    refine cW_seq ?_
    refine cW_region ?_
    refine wS_pure 5 [(10, .bool (decide (x87 < (((l0).length : Int))))), (9, .bool (decide (x87 < (((l0).length : Int))))), (8, .int .i64 (((l0).length : Int))), (7, .slice A0 (l0).length cap0), (6, .int .i64 (x87))] (by kernel_rfl) ?_
    refine wS_bool (decide (x87 < (((l0).length : Int)))) (fun hb97 => ?_) (fun hb97 => ?_)
    · have hm := condT hb97 hm
      rewrite [hb97]
      refine wS_pure 5 [(15, .bool (decide (x87 < (((l1).length : Int))))), (14, .bool (decide (x87 < (((l1).length : Int))))), (13, .int .i64 (((l1).length : Int))), (12, .slice A1 (l1).length cap1), (11, .int .i64 (x87))] (by kernel_rfl) ?_
      refine wS_end (by rfl) ?_
      refine eX_then ?_
      refine cW_cond (t := decide (x87 < (((l1).length : Int)))) (by kernel_rfl) (fun hb98 => ?_) (fun hb98 => ?_)
      · have hm := condT hb98 hm
        refine cW_skip ?_
        refine eX_then ?_
        refine cW_seq ?_
        refine cW_block ?_
        refine cW_seq ?_
        refine cW_drawnTail [] 8 (by kernel_rfl) (by kernel_rfl) (fun w107 hc108 => ?_)
        replace F89 := F89.chg hc108 Dj.nil
        replace F90 := F90.chg hc108 Dj.nil
        replace hB := hB.inS hc108 inNil
        replace hZ := Nat.le_trans hZ hc108.size
        have hS := Chg.refl [] w107
        have Z109 := F89
        have Z110 := F90
        refine wH_take [0, 1] [1, 0] [(19, .int .i64 (x87)), (18, .slice A0 (l0).length cap0)] (by kernel_rfl) (qT (qT (qB (qT (qL (qB (qT (qT qZ)))))))) (by kernel_rfl) ?_
        obtain ⟨x111, hx112, hm⟩ := bindE hm
        refine wH_idx (i := 2) (d := 20) (T := 38) (A := A0) (n := (l0).length) (cap := cap0) (kd := .i64) (m := x87) (by kernel_rfl) (qT (qT (qB (qT (qL (qB (qT (qT qZ)))))))) (by kernel_rfl) (by kernel_rfl) sl38 (F89.is hx112) ?_
        refine wH_load1 (i := 3) (d := 21) (T := 2) (ad := (elA A0 1 (x87) 0)) (v := .int .i64 (x111)) (by kernel_rfl) (qT (qT (qB (qT (qL (qB (qT (qT qZ)))))))) (by kernel_rfl) (by kernel_rfl) vt2 (fun W hW => Sl.cell (Z109.chg hW Dj.nil) hx112 0 (by rfl)) ?_
        refine wH_take [4, 5] [5, 4, 3, 2, 1, 0] [(23, .int .i64 (x87)), (22, .slice A1 (l1).length cap1)] (by kernel_rfl) (qT (qT (qB (qT (qL (qB (qT (qT qZ)))))))) (by kernel_rfl) ?_
        obtain ⟨x113, hx114, hm⟩ := bindE hm
        refine wH_idx (i := 6) (d := 24) (T := 38) (A := A1) (n := (l1).length) (cap := cap1) (kd := .i64) (m := x87) (by kernel_rfl) (qT (qT (qB (qT (qL (qB (qT (qT qZ)))))))) (by kernel_rfl) (by kernel_rfl) sl38 (F90.is hx114) ?_
        refine wH_load1 (i := 7) (d := 25) (T := 2) (ad := (elA A1 1 (x87) 0)) (v := .int .i64 (x113)) (by kernel_rfl) (qT (qT (qB (qT (qL (qB (qT (qT qZ)))))))) (by kernel_rfl) (by kernel_rfl) vt2 (fun W hW => Sl.cell (Z110.chg hW Dj.nil) hx114 0 (by rfl)) ?_
        refine wH_done (by kernel_rfl) ?_
        refine eX_tail ?_
        refine wS_pure 1 [(26, .bool (x111 != x113))] (by kernel_rfl) ?_
        refine wS_end (by rfl) ?_
        refine eX_then ?_
        refine cW_cond (t := x111 != x113) (by kernel_rfl) (fun hb115 => ?_) (fun hb115 => ?_)
        · have hm := condT hb115 hm
          refine cW_seq ?_
          refine cW_drawnTail [] 8 (by kernel_rfl) (by kernel_rfl) (fun w124 hc125 => ?_)
          replace F89 := F89.chg hc125 Dj.nil
          replace F90 := F90.chg hc125 Dj.nil
          replace hB := hB.inS hc125 inNil
          replace hZ := Nat.le_trans hZ hc125.size
          have hS := Chg.refl [] w124
          have Z126 := F89
          have Z127 := F90
          refine wH_take [0, 1] [1, 0] [(28, .int .i64 (x87)), (27, .slice A0 (l0).length cap0)] (by kernel_rfl) (qT (qT (qB (qT (qL (qB (qT (qT qZ)))))))) (by kernel_rfl) ?_
          obtain ⟨x128, hx129, hm⟩ := bindE hm
          refine wH_idx (i := 2) (d := 29) (T := 38) (A := A0) (n := (l0).length) (cap := cap0) (kd := .i64) (m := x87) (by kernel_rfl) (qT (qT (qB (qT (qL (qB (qT (qT qZ)))))))) (by kernel_rfl) (by kernel_rfl) sl38 (F89.is hx129) ?_
          refine wH_load1 (i := 3) (d := 30) (T := 2) (ad := (elA A0 1 (x87) 0)) (v := .int .i64 (x128)) (by kernel_rfl) (qT (qT (qB (qT (qL (qB (qT (qT qZ)))))))) (by kernel_rfl) (by kernel_rfl) vt2 (fun W hW => Sl.cell (Z126.chg hW Dj.nil) hx129 0 (by rfl)) ?_
          refine wH_take [4, 5] [5, 4, 3, 2, 1, 0] [(32, .int .i64 (x87)), (31, .slice A1 (l1).length cap1)] (by kernel_rfl) (qT (qT (qB (qT (qL (qB (qT (qT qZ)))))))) (by kernel_rfl) ?_
          obtain ⟨x130, hx131, hm⟩ := bindE hm
          refine wH_idx (i := 6) (d := 33) (T := 38) (A := A1) (n := (l1).length) (cap := cap1) (kd := .i64) (m := x87) (by kernel_rfl) (qT (qT (qB (qT (qL (qB (qT (qT qZ)))))))) (by kernel_rfl) (by kernel_rfl) sl38 (F90.is hx131) ?_
          refine wH_load1 (i := 7) (d := 34) (T := 2) (ad := (elA A1 1 (x87) 0)) (v := .int .i64 (x130)) (by kernel_rfl) (qT (qT (qB (qT (qL (qB (qT (qT qZ)))))))) (by kernel_rfl) (by kernel_rfl) vt2 (fun W hW => Sl.cell (Z127.chg hW Dj.nil) hx131 0 (by rfl)) ?_
          refine wH_done (by kernel_rfl) ?_
          refine eX_tail ?_
          refine wS_pure 2 [(4, .bool (decide (x128 < x130))), (35, .bool (decide (x128 < x130)))] (by kernel_rfl) ?_
          refine wS_end (by rfl) ?_
          refine eX_then ?_
          refine cW_prune [(4, .bool (decide (x128 < x130)))] (by kernel_rfl) (by kernel_rfl) (fun a132 => ?_)
          refine cW_ret ?_
          refine eX_block_ret ?_
          refine eX_then_ret ?_
          have hq : (some (Ctl.out (Sum.inr (decide (x128 < x130)))) : Option (Ctl (Int) (Sum (Unit) ((Bool))))) = some _ := hm
          replace hq := someE hq
          subst hq
          refine eX_outR hx96 (fun hr => ?_)
          subst hr
          refine eX_block_ret ?_
          refine eX_then_ret ?_
          refine eX_then_ret ?_
          have hq : (some (decide (x128 < x130)) : Option ((Bool))) = some _ := hm93
          replace hq := someE hq
          subst hq
          refine eX_ret (vs := [.bool (decide (x128 < x130))]) [.tmp 4] (by rfl) ⟨by (show lkE _ _ _ = _); kernel_rfl, trivial⟩ ?_
          exact ⟨rfl, hB⟩
        · have hm := condF hb115 hm
          refine cW_skip ?_
          refine eX_block ?_
          refine eX_then ?_
          refine cW_region ?_
          refine wS_pure 3 [(5, .int .i64 (wr (x87 + 1))), (17, .int .i64 (wr (x87 + 1))), (16, .int .i64 (x87))] (by kernel_rfl) ?_
          refine wS_end (by rfl) ?_
          have hq : (some (Ctl.next (wr (x87 + 1))) : Option (Ctl (Int) (Sum (Unit) ((Bool))))) = some _ := hm
          replace hq := someE hq
          subst hq
          exact eX_next hx96 (fun hst => ⟨wr (x87 + 1), rfl, Fr.of hst (by kernel_rfl), F89, F90, hB, hZ⟩)
      · have hm := condF hb98 hm
        refine cW_exit ?_
        refine eX_then_exit ?_
        have hq : (some (Ctl.out (Sum.inl (()))) : Option (Ctl (Int) (Sum (Unit) ((Bool))))) = some _ := hm
        replace hq := someE hq
        subst hq
        refine eX_outX hx96 (fun hr133 => ?_)
        replace hr133 := hr133.symm
        subst hr133
        refine eX_block_hit ?_
        exact eX_J (fun hst => ⟨rfl, Fr.of hst (by kernel_rfl), F89, F90, hB, hZ⟩)
    · have hm := condF hb97 hm
      rewrite [hb97]
      refine wS_pure 5 [(15, .bool (false)), (14, undef), (13, undef), (12, undef), (11, undef)] (by kernel_rfl) ?_
      refine wS_end (by rfl) ?_
      refine eX_then ?_
      refine cW_cond_f (by kernel_rfl) ?_
      refine cW_exit ?_
      refine eX_then_exit ?_
      have hq : (some (Ctl.out (Sum.inl (()))) : Option (Ctl (Int) (Sum (Unit) ((Bool))))) = some _ := hm
      replace hq := someE hq
      subst hq
      refine eX_outX hx96 (fun hr134 => ?_)
      replace hr134 := hr134.symm
      subst hr134
      refine eX_block_hit ?_
      exact eX_J (fun hst => ⟨rfl, Fr.of hst (by kernel_rfl), F89, F90, hB, hZ⟩)
  · rintro a' w82 ⟨hJ, hF83, F84, F85, hB, hZ⟩
    subst hJ
    refine Fr.goX hF83 (by kernel_rfl) ?_
    refine eX_then ?_
    refine cW_seq ?_
    refine cW_region ?_
    refine wS_pure 6 [(4, .bool (decide ((((l0).length : Int)) < (((l1).length : Int))))), (40, .bool (decide ((((l0).length : Int)) < (((l1).length : Int))))), (39, .int .i64 (((l1).length : Int))), (38, .slice A1 (l1).length cap1), (37, .int .i64 (((l0).length : Int))), (36, .slice A0 (l0).length cap0)] (by kernel_rfl) ?_
    refine wS_end (by rfl) ?_
    refine eX_then ?_
    refine cW_ret ?_
    have hq : (some (decide ((((l0).length : Int)) < (((l1).length : Int)))) : Option ((Bool))) = some _ := hm
    replace hq := someE hq
    subst hq
    refine eX_ret (vs := [.bool (decide ((((l0).length : Int)) < (((l1).length : Int))))]) [.tmp 4] (by rfl) ⟨by (show lkE _ _ _ = _); kernel_rfl, trivial⟩ ?_
    exact ⟨rfl, hB⟩

set_option maxRecDepth 100000 in
/-- spec.l07Lists -/
theorem c_spec_l07Lists {w0 : World} {l0 : List (List (Int))} {A0 : Option Addr} {cap0 : Nat} {fp0 : List Nat} {p1 : Int} {p2 : Int} {r : (Bool)} (hm : m_spec_l07Lists l0 p1 p2 = some r) (F0 : SlR 1 encI w0 fp0 A0 l0) :
    Calls Try.prog 123 #[.slice A0 (l0).length cap0, .int .i64 (p1), .int .i64 (p2)] w0 fun e w' => e = .returned (.bool (r)) ∧ Chg [] w0 w' := by
  have L0 := F0.low
  have hB : Chg [] w0 w0 := Chg.refl _ _
  have hZ := Nat.le_refl w0.heap.size
  unfold m_spec_l07Lists at hm
  refine enterE (N := 71) Try.func123 (by rfl) Try.ntmps123 (by simp) [(0, .slice A0 (l0).length cap0), (1, .int .i64 (p1)), (2, .int .i64 (p2))] (by rfl) (by kernel_rfl) (fun a => ?_)
  refine cW_seq ?_
  refine cW_region ?_
  refine wS_pure 1 [(6, .bool (false))] (by kernel_rfl) ?_
  refine wS_end (by rfl) ?_
  refine eX_then ?_
  refine cW_seq ?_
  refine cW_seq ?_
  refine cW_region ?_
  refine wS_pure 1 [(7, .int .i64 (0))] (by kernel_rfl) ?_
  refine wS_end (by rfl) ?_
  refine eX_then ?_
  obtain ⟨r212, hr213, hm⟩ := bindE hm
  have hm214 := hm
  refine cW_cut (fun a' w' => Sum.inl (()) = r212 ∧ Fr 71 [(0, .slice A0 (l0).length cap0)] a' ∧ SlR 1 encI w' fp0 A0 l0 ∧ Chg [] w0 w' ∧ w0.heap.size ≤ w'.heap.size) ?_ ?_
  · refine cW_block ?_
    refine cW_loop _ (fun (s215 : Int) a' w' => ∃ x209 : Int, x209 = s215 ∧ Fr 71 [(0, .slice A0 (l0).length cap0), (1, .int .i64 (p1)), (2, .int .i64 (p2)), (7, .int .i64 (x209))] a' ∧ SlR 1 encI w' fp0 A0 l0 ∧ Chg [] w0 w' ∧ w0.heap.size ≤ w'.heap.size) hr213 (fun hst => ⟨0, rfl, Fr.of hst (by kernel_rfl), F0, hB, hZ⟩) ?_
    rintro _ c216 a' w208 ⟨x209, rfl, hF210, F211, hB, hZ⟩ hx217
    refine Fr.goOn hF210 (by kernel_rfl) ?_
    have hm := hx217
    unfold m_spec_l07Lists_s1 at hm
    refine cW_seq ?_
    refine cW_seq ?_
    refine cW_region ?_
    refine wS_pure 4 [(12, .bool (decide (x209 < (((l0).length : Int))))), (11, .int .i64 (((l0).length : Int))), (10, .slice A0 (l0).length cap0), (9, .int .i64 (x209))] (by kernel_rfl) ?_
    refine wS_end (by rfl) ?_
    refine eX_then ?_
    refine cW_cond (t := decide (x209 < (((l0).length : Int)))) (by kernel_rfl) (fun hb218 => ?_) (fun hb218 => ?_)
    · have hm := condT hb218 hm
      refine cW_skip ?_
      refine eX_then ?_
      refine cW_seq ?_
      refine cW_block ?_
      refine cW_seq ?_
      refine cW_region ?_
      refine wS_pure 2 [(16, .int .i64 (x209)), (15, .slice A0 (l0).length cap0)] (by kernel_rfl) ?_
      obtain ⟨x219, hx220, hm⟩ := bindE hm
      refine wS_idx (d := 17) (T := 37) (A := A0) (n := (l0).length) (cap := cap0) (kd := .i64) (m := x209) (by kernel_rfl) sl37 (F211.is hx220) ?_
      obtain ⟨A221, cap222, hc224, F223, K225⟩ := SlR.row F211 hx220
      refine wS_load1 (d := 18) (T := 38) (ad := (elA A0 1 (x209) 0)) (v := .slice A221 (x219).length cap222) (by kernel_rfl) vt38 hc224 ?_
      refine wS_pure 1 [(8, .slice A221 (x219).length cap222)] (by kernel_rfl) ?_
      refine wS_end (by rfl) ?_
      refine eX_then ?_
      refine cW_seq ?_
      refine cW_seq ?_
      refine cW_drawnTail [] 23 (by kernel_rfl) (by kernel_rfl) (fun w255 hc256 => ?_)
      replace F211 := F211.chg hc256 Dj.nil
      replace F223 := F223.chg hc256 Dj.nil
      replace hB := hB.inS hc256 inNil
      replace hZ := Nat.le_trans hZ hc256.size
      have hS := Chg.refl [] w255
      have Z257 := F211
      have Z258 := F223
      refine wH_take [0, 1, 2, 3, 4] [4, 3, 2, 1, 0] [(23, .bool ((((x219).length : Int)) != p2)), (22, .bool ((((x219).length : Int)) != p2)), (21, .int .i64 (p2)), (20, .int .i64 (((x219).length : Int))), (19, .slice A221 (x219).length cap222)] (by kernel_rfl) (qT (qT (qT (qB (qT (qL (qB (qT (qT qZ))))))))) (by kernel_rfl) ?_
      refine wH_bool ((((x219).length : Int)) != p2) (fun hb259 => ?_) (fun hb259 => ?_)
      · have hm := condT hb259 hm
        rewrite [hb259]
        refine wH_take [5, 6, 7, 8, 9, 10, 11, 12, 13, 14, 15, 16, 17, 18, 19, 20, 21, 22] [22, 21, 20, 19, 18, 17, 16, 15, 14, 13, 12, 11, 10, 9, 8, 7, 6, 5, 4, 3, 2, 1, 0] [(41, undef), (40, undef), (39, undef), (38, undef), (37, undef), (36, undef), (35, undef), (34, undef), (33, undef), (32, .bool (true)), (31, .bool (true)), (30, undef), (29, undef), (28, undef), (27, undef), (26, undef), (25, undef), (24, undef)] (by kernel_rfl) (qT (qT (qT (qB (qT (qL (qB (qT (qT qZ))))))))) (by kernel_rfl) ?_
        refine wH_done (by kernel_rfl) ?_
        refine eX_tail ?_
        refine wS_pure 14 [(55, .bool (true)), (54, undef), (53, undef), (52, undef), (51, undef), (50, undef), (49, undef), (48, undef), (47, undef), (46, undef), (45, .bool (true)), (44, .bool (true)), (43, undef), (42, undef)] (by kernel_rfl) ?_
        refine wS_end (by rfl) ?_
        refine eX_then ?_
        refine cW_prune [(0, .slice A0 (l0).length cap0), (1, .int .i64 (p1)), (2, .int .i64 (p2)), (7, .int .i64 (x209)), (8, .slice A221 (x219).length cap222), (55, .bool (true))] (by kernel_rfl) (by kernel_rfl) (fun a260 => ?_)
        refine cW_cond_t (by kernel_rfl) ?_
        refine cW_seq ?_
        refine cW_region ?_
        refine wS_pure 1 [(6, .bool (false))] (by kernel_rfl) ?_
        refine wS_end (by rfl) ?_
        refine eX_then ?_
        refine cW_ret ?_
        refine eX_then_ret ?_
        refine eX_block_ret ?_
        refine eX_then_ret ?_
        have hq : (some (Ctl.out (Sum.inr false)) : Option (Ctl (Int) (Sum (Unit) ((Bool))))) = some _ := hm
        replace hq := someE hq
        subst hq
        refine eX_outR hx217 (fun hr => ?_)
        subst hr
        refine eX_block_ret ?_
        refine eX_then_ret ?_
        refine eX_then_ret ?_
        have hq : (some false : Option ((Bool))) = some _ := hm214
        replace hq := someE hq
        subst hq
        refine eX_ret (vs := [.bool (false)]) [.tmp 6] (by rfl) ⟨by (show lkE _ _ _ = _); kernel_rfl, trivial⟩ ?_
        exact ⟨rfl, hB⟩
      · have hm := condF hb259 hm
        rewrite [hb259]
        refine wH_take [5] [5, 4, 3, 2, 1, 0] [(24, .slice A221 (x219).length cap222)] (by kernel_rfl) (qT (qT (qT (qB (qT (qL (qB (qT (qT qZ))))))))) (by kernel_rfl) ?_
        obtain ⟨x261, hx262, hm⟩ := bindE hm
        refine wH_idx (i := 6) (d := 25) (T := 38) (A := A221) (n := (x219).length) (cap := cap222) (kd := .i64) (m := 0) (by kernel_rfl) (qT (qT (qT (qB (qT (qL (qB (qT (qT qZ))))))))) (by kernel_rfl) (by kernel_rfl) sl38 (F223.is hx262) ?_
        refine wH_load1 (i := 7) (d := 26) (T := 2) (ad := (elA A221 1 (0) 0)) (v := .int .i64 (x261)) (by kernel_rfl) (qT (qT (qT (qB (qT (qL (qB (qT (qT qZ))))))))) (by kernel_rfl) (by kernel_rfl) vt2 (fun W hW => Sl.cell (Z258.chg hW Dj.nil) hx262 0 (by rfl)) ?_
        refine wH_take [8, 9] [9, 8, 7, 6, 5, 4, 3, 2, 1, 0] [(28, .int .i64 (wr (p1 - 1))), (27, .int .i64 (p1))] (by kernel_rfl) (qT (qT (qT (qB (qT (qL (qB (qT (qT qZ))))))))) (by kernel_rfl) ?_
        refine wH_all [10] (by rfl) (by kernel_rfl) (by simp) ⟨⟨by kernel_rfl, ?_⟩, trivial⟩
        obtain ⟨y263, hy264, hm⟩ := bindE hm
        refine wS_calls (d := 29) (f := 118) (vs := [.int .i64 (x261), .int .i64 (0), .int .i64 (wr (p1 - 1))]) (by kernel_rfl) ent118 (c_spec_l00In hy264) ?_
        rintro _ w265 ⟨rfl, hc266⟩
        replace F211 := F211.chg hc266 Dj.nil
        replace F223 := F223.chg hc266 Dj.nil
        replace hB := hB.inS hc266 inNil
        have hSz := hS
        replace hS := hS.inS hc266 inNil
        replace hZ := Nat.le_trans hZ hc266.size
        refine ⟨.bool (y263), rfl, ?_⟩
        refine wS_end (by kernel_rfl) ?_
        refine eX_KH hS ?_
        refine wH_take [11, 12, 13] [13, 12, 11, 10, 9, 8, 7, 6, 5, 4, 3, 2, 1, 0] [(32, .bool (!y263)), (31, .bool (!y263)), (30, .bool (!y263))] (by kernel_rfl) (qT (qT (qT (qB (qT (qL (qB (qT (qT qZ))))))))) (by kernel_rfl) ?_
        refine wH_bool (!y263) (fun hb267 => ?_) (fun hb267 => ?_)
        · have hm := condT hb267 hm
          rewrite [hb267]
          refine wH_take [14, 15, 16, 17, 18, 19, 20, 21, 22] [22, 21, 20, 19, 18, 17, 16, 15, 14, 13, 12, 11, 10, 9, 8, 7, 6, 5, 4, 3, 2, 1, 0] [(41, undef), (40, undef), (39, undef), (38, undef), (37, undef), (36, undef), (35, undef), (34, undef), (33, undef)] (by kernel_rfl) (qT (qT (qT (qB (qT (qL (qB (qT (qT qZ))))))))) (by kernel_rfl) ?_
          refine wH_done (by kernel_rfl) ?_
          refine eX_tail ?_
          refine wS_pure 14 [(55, .bool (true)), (54, undef), (53, undef), (52, undef), (51, undef), (50, undef), (49, undef), (48, undef), (47, undef), (46, undef), (45, .bool (true)), (44, .bool (true)), (43, undef), (42, undef)] (by kernel_rfl) ?_
          refine wS_end (by rfl) ?_
          refine eX_then ?_
          refine cW_prune [(0, .slice A0 (l0).length cap0), (1, .int .i64 (p1)), (2, .int .i64 (p2)), (7, .int .i64 (x209)), (8, .slice A221 (x219).length cap222), (55, .bool (true))] (by kernel_rfl) (by kernel_rfl) (fun a268 => ?_)
          refine cW_cond_t (by kernel_rfl) ?_
          refine cW_seq ?_
          refine cW_region ?_
          refine wS_pure 1 [(6, .bool (false))] (by kernel_rfl) ?_
          refine wS_end (by rfl) ?_
          refine eX_then ?_
          refine cW_ret ?_
          refine eX_then_ret ?_
          refine eX_block_ret ?_
          refine eX_then_ret ?_
          have hq : (some (Ctl.out (Sum.inr false)) : Option (Ctl (Int) (Sum (Unit) ((Bool))))) = some _ := hm
          replace hq := someE hq
          subst hq
          refine eX_outR hx217 (fun hr => ?_)
          subst hr
          refine eX_block_ret ?_
          refine eX_then_ret ?_
          refine eX_then_ret ?_
          have hq : (some false : Option ((Bool))) = some _ := hm214
          replace hq := someE hq
          subst hq
          refine eX_ret (vs := [.bool (false)]) [.tmp 6] (by rfl) ⟨by (show lkE _ _ _ = _); kernel_rfl, trivial⟩ ?_
          exact ⟨rfl, hB⟩
        · have hm := condF hb267 hm
          rewrite [hb267]
          refine wH_take [14] [14, 13, 12, 11, 10, 9, 8, 7, 6, 5, 4, 3, 2, 1, 0] [(33, .slice A221 (x219).length cap222)] (by kernel_rfl) (qT (qT (qT (qB (qT (qL (qB (qT (qT qZ))))))))) (by kernel_rfl) ?_
          obtain ⟨x269, hx270, hm⟩ := bindE hm
          refine wH_idx (i := 15) (d := 34) (T := 38) (A := A221) (n := (x219).length) (cap := cap222) (kd := .i64) (m := 1) (by kernel_rfl) (qT (qT (qT (qB (qT (qL (qB (qT (qT qZ))))))))) (by kernel_rfl) (by kernel_rfl) sl38 (F223.is hx270) ?_
          refine wH_load1 (i := 16) (d := 35) (T := 2) (ad := (elA A221 1 (1) 0)) (v := .int .i64 (x269)) (by kernel_rfl) (qT (qT (qT (qB (qT (qL (qB (qT (qT qZ))))))))) (by kernel_rfl) (by kernel_rfl) vt2 (fun W hW => Sl.cell (Z258.chg hW Dj.nil) hx270 0 (by rfl)) ?_
          refine wH_take [17] [17, 16, 15, 14, 13, 12, 11, 10, 9, 8, 7, 6, 5, 4, 3, 2, 1, 0] [(36, .slice A221 (x219).length cap222)] (by kernel_rfl) (qT (qT (qT (qB (qT (qL (qB (qT (qT qZ))))))))) (by kernel_rfl) ?_
          obtain ⟨x271, hx272, hm⟩ := bindE hm
          refine wH_idx (i := 18) (d := 37) (T := 38) (A := A221) (n := (x219).length) (cap := cap222) (kd := .i64) (m := 0) (by kernel_rfl) (qT (qT (qT (qB (qT (qL (qB (qT (qT qZ))))))))) (by kernel_rfl) (by kernel_rfl) sl38 (F223.is hx272) ?_
          refine wH_load1 (i := 19) (d := 38) (T := 2) (ad := (elA A221 1 (0) 0)) (v := .int .i64 (x271)) (by kernel_rfl) (qT (qT (qT (qB (qT (qL (qB (qT (qT qZ))))))))) (by kernel_rfl) (by kernel_rfl) vt2 (fun W hW => Sl.cell (Z258.chg hW Dj.nil) hx272 0 (by rfl)) ?_
          refine wH_take [20, 21, 22] [22, 21, 20, 19, 18, 17, 16, 15, 14, 13, 12, 11, 10, 9, 8, 7, 6, 5, 4, 3, 2, 1, 0] [(41, .int .i64 (wr (p1 - 1))), (40, .int .i64 (p1)), (39, .int .i64 (wr (x271 + 1)))] (by kernel_rfl) (qT (qT (qT (qB (qT (qL (qB (qT (qT qZ))))))))) (by kernel_rfl) ?_
          refine wH_done (by kernel_rfl) ?_
          refine eX_tail ?_
          obtain ⟨y273, hy274, hm⟩ := bindE hm
          refine wS_calls (d := 42) (f := 118) (vs := [.int .i64 (x269), .int .i64 (wr (x271 + 1)), .int .i64 (wr (p1 - 1))]) (by kernel_rfl) ent118 (c_spec_l00In hy274) ?_
          rintro _ w275 ⟨rfl, hc276⟩
          replace F211 := F211.chg hc276 Dj.nil
          replace F223 := F223.chg hc276 Dj.nil
          replace hB := hB.inS hc276 inNil
          replace hZ := Nat.le_trans hZ hc276.size
          refine ⟨.bool (y273), rfl, ?_⟩
          refine wS_pure 3 [(45, .bool (!y273)), (44, .bool (!y273)), (43, .bool (!y273))] (by kernel_rfl) ?_
          refine wS_bool (!y273) (fun hb277 => ?_) (fun hb277 => ?_)
          · have hm := condT hb277 hm
            rewrite [hb277]
            refine wS_pure 10 [(55, .bool (true)), (54, undef), (53, undef), (52, undef), (51, undef), (50, undef), (49, undef), (48, undef), (47, undef), (46, undef)] (by kernel_rfl) ?_
            refine wS_end (by rfl) ?_
            refine eX_then ?_
            refine cW_prune [(0, .slice A0 (l0).length cap0), (1, .int .i64 (p1)), (2, .int .i64 (p2)), (7, .int .i64 (x209)), (8, .slice A221 (x219).length cap222), (55, .bool (true))] (by kernel_rfl) (by kernel_rfl) (fun a278 => ?_)
            refine cW_cond_t (by kernel_rfl) ?_
            refine cW_seq ?_
            refine cW_region ?_
            refine wS_pure 1 [(6, .bool (false))] (by kernel_rfl) ?_
            refine wS_end (by rfl) ?_
            refine eX_then ?_
            refine cW_ret ?_
            refine eX_then_ret ?_
            refine eX_block_ret ?_
            refine eX_then_ret ?_
            have hq : (some (Ctl.out (Sum.inr false)) : Option (Ctl (Int) (Sum (Unit) ((Bool))))) = some _ := hm
            replace hq := someE hq
            subst hq
            refine eX_outR hx217 (fun hr => ?_)
            subst hr
            refine eX_block_ret ?_
            refine eX_then_ret ?_
            refine eX_then_ret ?_
            have hq : (some false : Option ((Bool))) = some _ := hm214
            replace hq := someE hq
            subst hq
            refine eX_ret (vs := [.bool (false)]) [.tmp 6] (by rfl) ⟨by (show lkE _ _ _ = _); kernel_rfl, trivial⟩ ?_
            exact ⟨rfl, hB⟩
          · have hm := condF hb277 hm
            rewrite [hb277]
            refine wS_pure 3 [(48, .bool (p2 == 3)), (47, .bool (p2 == 3)), (46, .int .i64 (p2))] (by kernel_rfl) ?_
            refine wS_bool (p2 == 3) (fun hb279 => ?_) (fun hb279 => ?_)
            · have hm := condT hb279 hm
              rewrite [hb279]
              refine wS_pure 1 [(49, .slice A221 (x219).length cap222)] (by kernel_rfl) ?_
              obtain ⟨x280, hx281, hm⟩ := bindE hm
              refine wS_idx (d := 50) (T := 38) (A := A221) (n := (x219).length) (cap := cap222) (kd := .i64) (m := 2) (by kernel_rfl) sl38 (F223.is hx281) ?_
              refine wS_load1 (d := 51) (T := 2) (ad := (elA A221 1 (2) 0)) (v := .int .i64 (x280)) (by kernel_rfl) vt2 (Sl.cell F223 hx281 0 (by rfl)) ?_
              obtain ⟨y282, hy283, hm⟩ := bindE hm
              refine wS_calls (d := 52) (f := 118) (vs := [.int .i64 (x280), .int .i64 (0), .int .i64 (1000)]) (by kernel_rfl) ent118 (c_spec_l00In hy283) ?_
              rintro _ w284 ⟨rfl, hc285⟩
              replace F211 := F211.chg hc285 Dj.nil
              replace F223 := F223.chg hc285 Dj.nil
              replace hB := hB.inS hc285 inNil
              replace hZ := Nat.le_trans hZ hc285.size
              refine ⟨.bool (y282), rfl, ?_⟩
              refine wS_pure 3 [(55, .bool (!y282)), (54, .bool (!y282)), (53, .bool (!y282))] (by kernel_rfl) ?_
              refine wS_end (by rfl) ?_
              refine eX_then ?_
              refine cW_prune [(0, .slice A0 (l0).length cap0), (1, .int .i64 (p1)), (2, .int .i64 (p2)), (7, .int .i64 (x209)), (8, .slice A221 (x219).length cap222), (55, .bool (!y282))] (by kernel_rfl) (by kernel_rfl) (fun a286 => ?_)
              refine cW_cond (t := !y282) (by kernel_rfl) (fun hb287 => ?_) (fun hb287 => ?_)
              · have hm := condT hb287 hm
                refine cW_seq ?_
                refine cW_region ?_
                refine wS_pure 1 [(6, .bool (false))] (by kernel_rfl) ?_
                refine wS_end (by rfl) ?_
                refine eX_then ?_
                refine cW_ret ?_
                refine eX_then_ret ?_
                refine eX_block_ret ?_
                refine eX_then_ret ?_
                have hq : (some (Ctl.out (Sum.inr false)) : Option (Ctl (Int) (Sum (Unit) ((Bool))))) = some _ := hm
                replace hq := someE hq
                subst hq
                refine eX_outR hx217 (fun hr => ?_)
                subst hr
                refine eX_block_ret ?_
                refine eX_then_ret ?_
                refine eX_then_ret ?_
                have hq : (some false : Option ((Bool))) = some _ := hm214
                replace hq := someE hq
                subst hq
                refine eX_ret (vs := [.bool (false)]) [.tmp 6] (by rfl) ⟨by (show lkE _ _ _ = _); kernel_rfl, trivial⟩ ?_
                exact ⟨rfl, hB⟩
              · have hm := condF hb287 hm
                refine cW_skip ?_
                refine eX_then ?_
                refine cW_seq ?_
                refine cW_region ?_
                refine wS_pure 3 [(58, .bool (decide (x209 > 0))), (57, .bool (decide (x209 > 0))), (56, .int .i64 (x209))] (by kernel_rfl) ?_
                refine wS_bool (decide (x209 > 0)) (fun hb288 => ?_) (fun hb288 => ?_)
                · have hm := condT hb288 hm
                  rewrite [hb288]
                  refine wS_pure 3 [(61, .int .i64 (wr (x209 - 1))), (60, .int .i64 (x209)), (59, .slice A0 (l0).length cap0)] (by kernel_rfl) ?_
                  obtain ⟨x289, hx290, hm⟩ := bindE hm
                  refine wS_idx (d := 62) (T := 37) (A := A0) (n := (l0).length) (cap := cap0) (kd := .i64) (m := wr (x209 - 1)) (by kernel_rfl) sl37 (F211.is hx290) ?_
                  obtain ⟨A291, cap292, hc294, F293, K295⟩ := SlR.row F211 hx290
                  refine wS_load1 (d := 63) (T := 38) (ad := (elA A0 1 (wr (x209 - 1)) 0)) (v := .slice A291 (x289).length cap292) (by kernel_rfl) vt38 hc294 ?_
                  refine wS_pure 1 [(64, .slice A221 (x219).length cap222)] (by kernel_rfl) ?_
                  obtain ⟨y297, hy298, hm⟩ := bindE hm
                  refine wS_calls (d := 65) (f := 151) (vs := [.slice A291 (x289).length cap292, .slice A221 (x219).length cap222]) (by kernel_rfl) ent151 (c_spec_l03Less hy298 F293 F223) ?_
                  rintro _ w299 ⟨rfl, hc300⟩
                  replace F211 := F211.chg hc300 Dj.nil
                  replace F223 := F223.chg hc300 Dj.nil
                  replace F293 := F293.chg hc300 Dj.nil
                  replace hB := hB.inS hc300 inNil
                  replace hZ := Nat.le_trans hZ hc300.size
                  refine ⟨.bool (y297), rfl, ?_⟩
                  refine wS_pure 2 [(67, .bool (!y297)), (66, .bool (!y297))] (by kernel_rfl) ?_
                  refine wS_end (by rfl) ?_
                  refine eX_then ?_
                  refine cW_cond (t := !y297) (by kernel_rfl) (fun hb301 => ?_) (fun hb301 => ?_)
                  · have hm := condT hb301 hm
                    refine cW_seq ?_
                    refine cW_region ?_
                    refine wS_pure 1 [(6, .bool (false))] (by kernel_rfl) ?_
                    refine wS_end (by rfl) ?_
                    refine eX_then ?_
                    refine cW_ret ?_
                    refine eX_block_ret ?_
                    refine eX_then_ret ?_
                    have hq : (some (Ctl.out (Sum.inr false)) : Option (Ctl (Int) (Sum (Unit) ((Bool))))) = some _ := hm
                    replace hq := someE hq
                    subst hq
                    refine eX_outR hx217 (fun hr => ?_)
                    subst hr
                    refine eX_block_ret ?_
                    refine eX_then_ret ?_
                    refine eX_then_ret ?_
                    have hq : (some false : Option ((Bool))) = some _ := hm214
                    replace hq := someE hq
                    subst hq
                    refine eX_ret (vs := [.bool (false)]) [.tmp 6] (by rfl) ⟨by (show lkE _ _ _ = _); kernel_rfl, trivial⟩ ?_
                    exact ⟨rfl, hB⟩
                  · have hm := condF hb301 hm
                    refine cW_skip ?_
                    refine eX_block ?_
                    refine eX_then ?_
                    refine cW_region ?_
                    refine wS_pure 3 [(7, .int .i64 (wr (x209 + 1))), (14, .int .i64 (wr (x209 + 1))), (13, .int .i64 (x209))] (by kernel_rfl) ?_
                    refine wS_end (by rfl) ?_
                    have hq : (some (Ctl.next (wr (x209 + 1))) : Option (Ctl (Int) (Sum (Unit) ((Bool))))) = some _ := hm
                    replace hq := someE hq
                    subst hq
                    exact eX_next hx217 (fun hst => ⟨wr (x209 + 1), rfl, Fr.of hst (by kernel_rfl), F211, hB, hZ⟩)
                · have hm := condF hb288 hm
                  rewrite [hb288]
                  refine wS_pure 9 [(67, .bool (false)), (66, undef), (65, undef), (64, undef), (63, undef), (62, undef), (61, undef), (60, undef), (59, undef)] (by kernel_rfl) ?_
                  refine wS_end (by rfl) ?_
                  refine eX_then ?_
                  refine cW_cond_f (by kernel_rfl) ?_
                  refine cW_skip ?_
                  refine eX_block ?_
                  refine eX_then ?_
                  refine cW_region ?_
                  refine wS_pure 3 [(7, .int .i64 (wr (x209 + 1))), (14, .int .i64 (wr (x209 + 1))), (13, .int .i64 (x209))] (by kernel_rfl) ?_
                  refine wS_end (by rfl) ?_
                  have hq : (some (Ctl.next (wr (x209 + 1))) : Option (Ctl (Int) (Sum (Unit) ((Bool))))) = some _ := hm
                  replace hq := someE hq
                  subst hq
                  exact eX_next hx217 (fun hst => ⟨wr (x209 + 1), rfl, Fr.of hst (by kernel_rfl), F211, hB, hZ⟩)
            · have hm := condF hb279 hm
              rewrite [hb279]
              refine wS_pure 7 [(55, .bool (false)), (54, .bool (false)), (53, undef), (52, undef), (51, undef), (50, undef), (49, undef)] (by kernel_rfl) ?_
              refine wS_end (by rfl) ?_
              refine eX_then ?_
              refine cW_prune [(0, .slice A0 (l0).length cap0), (1, .int .i64 (p1)), (2, .int .i64 (p2)), (7, .int .i64 (x209)), (8, .slice A221 (x219).length cap222), (55, .bool (false))] (by kernel_rfl) (by kernel_rfl) (fun a302 => ?_)
              refine cW_cond_f (by kernel_rfl) ?_
              refine cW_skip ?_
              refine eX_then ?_
              refine cW_seq ?_
              refine cW_region ?_
              refine wS_pure 3 [(58, .bool (decide (x209 > 0))), (57, .bool (decide (x209 > 0))), (56, .int .i64 (x209))] (by kernel_rfl) ?_
              refine wS_bool (decide (x209 > 0)) (fun hb303 => ?_) (fun hb303 => ?_)
              · have hm := condT hb303 hm
                rewrite [hb303]
                refine wS_pure 3 [(61, .int .i64 (wr (x209 - 1))), (60, .int .i64 (x209)), (59, .slice A0 (l0).length cap0)] (by kernel_rfl) ?_
                obtain ⟨x304, hx305, hm⟩ := bindE hm
                refine wS_idx (d := 62) (T := 37) (A := A0) (n := (l0).length) (cap := cap0) (kd := .i64) (m := wr (x209 - 1)) (by kernel_rfl) sl37 (F211.is hx305) ?_
                obtain ⟨A306, cap307, hc309, F308, K310⟩ := SlR.row F211 hx305
                refine wS_load1 (d := 63) (T := 38) (ad := (elA A0 1 (wr (x209 - 1)) 0)) (v := .slice A306 (x304).length cap307) (by kernel_rfl) vt38 hc309 ?_
                refine wS_pure 1 [(64, .slice A221 (x219).length cap222)] (by kernel_rfl) ?_
                obtain ⟨y312, hy313, hm⟩ := bindE hm
                refine wS_calls (d := 65) (f := 151) (vs := [.slice A306 (x304).length cap307, .slice A221 (x219).length cap222]) (by kernel_rfl) ent151 (c_spec_l03Less hy313 F308 F223) ?_
                rintro _ w314 ⟨rfl, hc315⟩
                replace F211 := F211.chg hc315 Dj.nil
                replace F223 := F223.chg hc315 Dj.nil
                replace F308 := F308.chg hc315 Dj.nil
                replace hB := hB.inS hc315 inNil
                replace hZ := Nat.le_trans hZ hc315.size
                refine ⟨.bool (y312), rfl, ?_⟩
                refine wS_pure 2 [(67, .bool (!y312)), (66, .bool (!y312))] (by kernel_rfl) ?_
                refine wS_end (by rfl) ?_
                refine eX_then ?_
                refine cW_cond (t := !y312) (by kernel_rfl) (fun hb316 => ?_) (fun hb316 => ?_)
                · have hm := condT hb316 hm
                  refine cW_seq ?_
                  refine cW_region ?_
                  refine wS_pure 1 [(6, .bool (false))] (by kernel_rfl) ?_
                  refine wS_end (by rfl) ?_
                  refine eX_then ?_
                  refine cW_ret ?_
                  refine eX_block_ret ?_
                  refine eX_then_ret ?_
                  have hq : (some (Ctl.out (Sum.inr false)) : Option (Ctl (Int) (Sum (Unit) ((Bool))))) = some _ := hm
                  replace hq := someE hq
                  subst hq
                  refine eX_outR hx217 (fun hr => ?_)
                  subst hr
                  refine eX_block_ret ?_
                  refine eX_then_ret ?_
                  refine eX_then_ret ?_
                  have hq : (some false : Option ((Bool))) = some _ := hm214
                  replace hq := someE hq
                  subst hq
                  refine eX_ret (vs := [.bool (false)]) [.tmp 6] (by rfl) ⟨by (show lkE _ _ _ = _); kernel_rfl, trivial⟩ ?_
                  exact ⟨rfl, hB⟩
                · have hm := condF hb316 hm
                  refine cW_skip ?_
                  refine eX_block ?_
                  refine eX_then ?_
                  refine cW_region ?_
                  refine wS_pure 3 [(7, .int .i64 (wr (x209 + 1))), (14, .int .i64 (wr (x209 + 1))), (13, .int .i64 (x209))] (by kernel_rfl) ?_
                  refine wS_end (by rfl) ?_
                  have hq : (some (Ctl.next (wr (x209 + 1))) : Option (Ctl (Int) (Sum (Unit) ((Bool))))) = some _ := hm
                  replace hq := someE hq
                  subst hq
                  exact eX_next hx217 (fun hst => ⟨wr (x209 + 1), rfl, Fr.of hst (by kernel_rfl), F211, hB, hZ⟩)
              · have hm := condF hb303 hm
                rewrite [hb303]
                refine wS_pure 9 [(67, .bool (false)), (66, undef), (65, undef), (64, undef), (63, undef), (62, undef), (61, undef), (60, undef), (59, undef)] (by kernel_rfl) ?_
                refine wS_end (by rfl) ?_
                refine eX_then ?_
                refine cW_cond_f (by kernel_rfl) ?_
                refine cW_skip ?_
                refine eX_block ?_
                refine eX_then ?_
                refine cW_region ?_
                refine wS_pure 3 [(7, .int .i64 (wr (x209 + 1))), (14, .int .i64 (wr (x209 + 1))), (13, .int .i64 (x209))] (by kernel_rfl) ?_
                refine wS_end (by rfl) ?_
                have hq : (some (Ctl.next (wr (x209 + 1))) : Option (Ctl (Int) (Sum (Unit) ((Bool))))) = some _ := hm
                replace hq := someE hq
                subst hq
                exact eX_next hx217 (fun hst => ⟨wr (x209 + 1), rfl, Fr.of hst (by kernel_rfl), F211, hB, hZ⟩)
    · have hm := condF hb218 hm
      refine cW_exit ?_
      refine eX_then_exit ?_
      have hq : (some (Ctl.out (Sum.inl (()))) : Option (Ctl (Int) (Sum (Unit) ((Bool))))) = some _ := hm
      replace hq := someE hq
      subst hq
      refine eX_outX hx217 (fun hr317 => ?_)
      replace hr317 := hr317.symm
      subst hr317
      refine eX_block_hit ?_
      exact eX_J (fun hst => ⟨rfl, Fr.of hst (by kernel_rfl), F211, hB, hZ⟩)
  · rintro a' w205 ⟨hJ, hF206, F207, hB, hZ⟩
    subst hJ
    refine Fr.goX hF206 (by kernel_rfl) ?_
    refine eX_then ?_
    refine cW_seq ?_
    refine cW_region ?_
    refine wS_pure 4 [(6, .bool (decide ((((l0).length : Int)) ≤ 30))), (70, .bool (decide ((((l0).length : Int)) ≤ 30))), (69, .int .i64 (((l0).length : Int))), (68, .slice A0 (l0).length cap0)] (by kernel_rfl) ?_
    refine wS_end (by rfl) ?_
    refine eX_then ?_
    refine cW_ret ?_
    have hq : (some (decide ((((l0).length : Int)) ≤ 30)) : Option ((Bool))) = some _ := hm
    replace hq := someE hq
    subst hq
    refine eX_ret (vs := [.bool (decide ((((l0).length : Int)) ≤ 30))]) [.tmp 6] (by rfl) ⟨by (show lkE _ _ _ = _); kernel_rfl, trivial⟩ ?_
    exact ⟨rfl, hB⟩

set_option maxRecDepth 100000 in
/-- spec.l07Is -/
theorem c_spec_l07Is_bimplWiring {w0 : World} {q0_0 : Int} {l0_1 : List (List (Int))} {A0_1 : Option Addr} {cap0_1 : Nat} {fp0_1 : List Nat} {l0_2 : List (List (Int))} {A0_2 : Option Addr} {cap0_2 : Nat} {fp0_2 : List Nat} {l0_3 : List (Int)} {A0_3 : Option Addr} {cap0_3 : Nat} {fp0_3 : List Nat} {b0 : Nat} {r : (Bool)} (hm : m_spec_l07Is_bimplWiring q0_0 l0_1 l0_2 l0_3 = some r) (F0_1 : SlR 1 encI w0 fp0_1 A0_1 l0_1) (F0_2 : SlR 1 encI w0 fp0_2 A0_2 l0_2) (F0_3 : Sl 1 encI w0 fp0_3 A0_3 l0_3) (F0 : Cl w0 b0 43 [.int .i64 (q0_0), .slice A0_1 (l0_1).length cap0_1, .slice A0_2 (l0_2).length cap0_2, .slice A0_3 (l0_3).length cap0_3]) :
    Calls Try.prog 82 #[.pointer (some ⟨b0, 0, none⟩)] w0 fun e w' => e = .returned (.bool (r)) ∧ Chg [] w0 w' := by
  have L0_1 := F0_1.low
  have L0_2 := F0_2.low
  have L0_3 := F0_3.low
  have L0 := lt1 F0.lt
  have hB : Chg [] w0 w0 := Chg.refl _ _
  have hZ := Nat.le_refl w0.heap.size
  unfold m_spec_l07Is_bimplWiring at hm
  refine enterE (N := 60) Try.func82 (by rfl) Try.ntmps82 (by simp) [(0, .pointer (some ⟨b0, 0, none⟩))] (by rfl) (by kernel_rfl) (fun a => ?_)
  refine cW_seq ?_
  refine cW_region ?_
  refine wS_pure 1 [(2, .bool (false))] (by kernel_rfl) ?_
  refine wS_end (by rfl) ?_
  refine eX_then ?_
  refine cW_seq ?_
  refine cW_seq ?_
  refine cW_drawnTail [] 16 (by kernel_rfl) (by kernel_rfl) (fun w16 hc17 => ?_)
  replace F0_1 := F0_1.chg hc17 Dj.nil
  replace F0_2 := F0_2.chg hc17 Dj.nil
  replace F0_3 := F0_3.chg hc17 Dj.nil
  replace F0 := F0.chg hc17 notNil
  replace hB := hB.inS hc17 inNil
  replace hZ := Nat.le_trans hZ hc17.size
  have hS := Chg.refl [] w16
  have Z18 := F0_1
  have Z19 := F0_2
  have Z20 := F0_3
  have Z21 := F0
  refine wH_take [0, 1, 2] [2, 1, 0] [(6, .pointer (some ⟨b0, 0, none⟩)), (5, .pointer (some ⟨b0, 0, none⟩)), (4, .pointer (some ⟨b0, 0, none⟩))] (by kernel_rfl) (qT (qT (qT qZ))) (by kernel_rfl) ?_
  refine wH_load1 (i := 3) (d := 7) (T := 2) (ad := ⟨b0, 0, none⟩) (v := .int .i64 (q0_0)) (by kernel_rfl) (qT (qT (qT qZ))) (by kernel_rfl) (by kernel_rfl) vt2 (fun W hW => (Z21.chg hW notNil).cell 0) ?_
  refine wH_all [4] (by rfl) (by kernel_rfl) (by simp) ⟨⟨by kernel_rfl, ?_⟩, trivial⟩
  obtain ⟨y22, hy23, hm⟩ := bindE hm
  refine wS_calls (d := 8) (f := 118) (vs := [.int .i64 (q0_0), .int .i64 (0), .int .i64 (14)]) (by kernel_rfl) ent118 (c_spec_l00In hy23) ?_
  rintro _ w24 ⟨rfl, hc25⟩
  replace F0_1 := F0_1.chg hc25 Dj.nil
  replace F0_2 := F0_2.chg hc25 Dj.nil
  replace F0_3 := F0_3.chg hc25 Dj.nil
  replace F0 := F0.chg hc25 notNil
  replace hB := hB.inS hc25 inNil
  have hSz := hS
  replace hS := hS.inS hc25 inNil
  replace hZ := Nat.le_trans hZ hc25.size
  refine ⟨.bool (y22), rfl, ?_⟩
  refine wS_end (by kernel_rfl) ?_
  refine eX_KH hS ?_
  refine wH_take [5, 6] [6, 5, 4, 3, 2, 1, 0] [(10, .bool (!y22)), (9, .bool (!y22))] (by kernel_rfl) (qT (qT (qT qZ))) (by kernel_rfl) ?_
  refine wH_bool (!y22) (fun hb26 => ?_) (fun hb26 => ?_)
  · have hm := condT hb26 hm
    rewrite [hb26]
    refine wH_take [7, 8, 9, 10, 11, 12, 13, 14, 15] [15, 14, 13, 12, 11, 10, 9, 8, 7, 6, 5, 4, 3, 2, 1, 0] [(19, undef), (18, undef), (17, undef), (16, undef), (15, undef), (14, undef), (13, undef), (12, undef), (11, undef)] (by kernel_rfl) (qT (qT (qT qZ))) (by kernel_rfl) ?_
    refine wH_done (by kernel_rfl) ?_
    refine eX_tail ?_
    refine wS_pure 2 [(21, .bool (true)), (20, undef)] (by kernel_rfl) ?_
    refine wS_end (by rfl) ?_
    refine eX_then ?_
    refine cW_cond_t (by kernel_rfl) ?_
    refine cW_seq ?_
    refine cW_region ?_
    refine wS_pure 1 [(2, .bool (false))] (by kernel_rfl) ?_
    refine wS_end (by rfl) ?_
    refine eX_then ?_
    refine cW_ret ?_
    refine eX_then_ret ?_
    have hq : (some false : Option ((Bool))) = some _ := hm
    replace hq := someE hq
    subst hq
    refine eX_ret (vs := [.bool (false)]) [.tmp 2] (by rfl) ⟨by (show lkE _ _ _ = _); kernel_rfl, trivial⟩ ?_
    exact ⟨rfl, hB⟩
  · have hm := condF hb26 hm
    rewrite [hb26]
    refine wH_take [7, 8, 9] [9, 8, 7, 6, 5, 4, 3, 2, 1, 0] [(13, .pointer (some ⟨b0, 3, none⟩)), (12, .pointer (some ⟨b0, 0, none⟩)), (11, .pointer (some ⟨b0, 0, none⟩))] (by kernel_rfl) (qT (qT (qT qZ))) (by kernel_rfl) ?_
    refine wH_load1 (i := 10) (d := 14) (T := 38) (ad := ⟨b0, 3, none⟩) (v := .slice A0_3 (l0_3).length cap0_3) (by kernel_rfl) (qT (qT (qT qZ))) (by kernel_rfl) (by kernel_rfl) vt38 (fun W hW => (Z21.chg hW notNil).cell 3) ?_
    refine wH_take [11, 12, 13, 14] [14, 13, 12, 11, 10, 9, 8, 7, 6, 5, 4, 3, 2, 1, 0] [(18, .pointer (some ⟨b0, 0, none⟩)), (17, .pointer (some ⟨b0, 0, none⟩)), (16, .pointer (some ⟨b0, 0, none⟩)), (15, .int .i64 (((l0_3).length : Int)))] (by kernel_rfl) (qT (qT (qT qZ))) (by kernel_rfl) ?_
    refine wH_load1 (i := 15) (d := 19) (T := 2) (ad := ⟨b0, 0, none⟩) (v := .int .i64 (q0_0)) (by kernel_rfl) (qT (qT (qT qZ))) (by kernel_rfl) (by kernel_rfl) vt2 (fun W hW => (Z21.chg hW notNil).cell 0) ?_
    refine wH_done (by kernel_rfl) ?_
    refine eX_tail ?_
    refine wS_pure 2 [(21, .bool ((((l0_3).length : Int)) != q0_0)), (20, .bool ((((l0_3).length : Int)) != q0_0))] (by kernel_rfl) ?_
    refine wS_end (by rfl) ?_
    refine eX_then ?_
    refine cW_cond (t := (((l0_3).length : Int)) != q0_0) (by kernel_rfl) (fun hb27 => ?_) (fun hb27 => ?_)
    · have hm := condT hb27 hm
      refine cW_seq ?_
      refine cW_region ?_
      refine wS_pure 1 [(2, .bool (false))] (by kernel_rfl) ?_
      refine wS_end (by rfl) ?_
      refine eX_then ?_
      refine cW_ret ?_
      refine eX_then_ret ?_
      have hq : (some false : Option ((Bool))) = some _ := hm
      replace hq := someE hq
      subst hq
      refine eX_ret (vs := [.bool (false)]) [.tmp 2] (by rfl) ⟨by (show lkE _ _ _ = _); kernel_rfl, trivial⟩ ?_
      exact ⟨rfl, hB⟩
    · have hm := condF hb27 hm
      refine cW_skip ?_
      refine eX_then ?_
      refine cW_seq ?_
      refine cW_seq ?_
      refine cW_region ?_
      refine wS_pure 1 [(3, .int .i64 (0))] (by kernel_rfl) ?_
      refine wS_end (by rfl) ?_
      refine eX_then ?_
      obtain ⟨r68, hr69, hm⟩ := bindE hm
      have hm70 := hm
      refine cW_cut (fun a' w' => Sum.inl (()) = r68 ∧ Fr 60 [(0, .pointer (some ⟨b0, 0, none⟩))] a' ∧ SlR 1 encI w' fp0_1 A0_1 l0_1 ∧ SlR 1 encI w' fp0_2 A0_2 l0_2 ∧ Sl 1 encI w' fp0_3 A0_3 l0_3 ∧ Cl w' b0 43 [.int .i64 (q0_0), .slice A0_1 (l0_1).length cap0_1, .slice A0_2 (l0_2).length cap0_2, .slice A0_3 (l0_3).length cap0_3] ∧ Chg [] w0 w' ∧ w0.heap.size ≤ w'.heap.size) ?_ ?_
      · refine cW_block ?_
        refine cW_loop _ (fun (s71 : Int) a' w' => ∃ x62 : Int, x62 = s71 ∧ Fr 60 [(0, .pointer (some ⟨b0, 0, none⟩)), (3, .int .i64 (x62))] a' ∧ SlR 1 encI w' fp0_1 A0_1 l0_1 ∧ SlR 1 encI w' fp0_2 A0_2 l0_2 ∧ Sl 1 encI w' fp0_3 A0_3 l0_3 ∧ Cl w' b0 43 [.int .i64 (q0_0), .slice A0_1 (l0_1).length cap0_1, .slice A0_2 (l0_2).length cap0_2, .slice A0_3 (l0_3).length cap0_3] ∧ Chg [] w0 w' ∧ w0.heap.size ≤ w'.heap.size) hr69 (fun hst => ⟨0, rfl, Fr.of hst (by kernel_rfl), F0_1, F0_2, F0_3, F0, hB, hZ⟩) ?_
        rintro _ c72 a' w61 ⟨x62, rfl, hF63, F64, F65, F66, F67, hB, hZ⟩ hx73
        refine Fr.goOn hF63 (by kernel_rfl) ?_
        have hm := hx73
        unfold m_spec_l07Is_bimplWiring_s1 at hm
        refine cW_seq ?_
        refine cW_seq ?_
        refine cW_region ?_
        refine wS_pure 4 [(25, .pointer (some ⟨b0, 3, none⟩)), (24, .pointer (some ⟨b0, 0, none⟩)), (23, .pointer (some ⟨b0, 0, none⟩)), (22, .int .i64 (x62))] (by kernel_rfl) ?_
        refine wS_load1 (d := 26) (T := 38) (ad := ⟨b0, 3, none⟩) (v := .slice A0_3 (l0_3).length cap0_3) (by kernel_rfl) vt38 ((F67).cell 3) ?_
        refine wS_pure 2 [(28, .bool (decide (x62 < (((l0_3).length : Int))))), (27, .int .i64 (((l0_3).length : Int)))] (by kernel_rfl) ?_
        refine wS_end (by rfl) ?_
        refine eX_then ?_
        refine cW_cond (t := decide (x62 < (((l0_3).length : Int)))) (by kernel_rfl) (fun hb74 => ?_) (fun hb74 => ?_)
        · have hm := condT hb74 hm
          refine cW_skip ?_
          refine eX_then ?_
          refine cW_seq ?_
          refine cW_block ?_
          refine cW_seq ?_
          refine cW_region ?_
          refine wS_pure 3 [(33, .pointer (some ⟨b0, 3, none⟩)), (32, .pointer (some ⟨b0, 0, none⟩)), (31, .pointer (some ⟨b0, 0, none⟩))] (by kernel_rfl) ?_
          refine wS_load1 (d := 34) (T := 38) (ad := ⟨b0, 3, none⟩) (v := .slice A0_3 (l0_3).length cap0_3) (by kernel_rfl) vt38 ((F67).cell 3) ?_
          refine wS_pure 1 [(35, .int .i64 (x62))] (by kernel_rfl) ?_
          obtain ⟨x75, hx76, hm⟩ := bindE hm
          refine wS_idx (d := 36) (T := 38) (A := A0_3) (n := (l0_3).length) (cap := cap0_3) (kd := .i64) (m := x62) (by kernel_rfl) sl38 (F66.is hx76) ?_
          refine wS_load1 (d := 37) (T := 2) (ad := (elA A0_3 1 (x62) 0)) (v := .int .i64 (x75)) (by kernel_rfl) vt2 (Sl.cell F66 hx76 0 (by rfl)) ?_
          obtain ⟨y77, hy78, hm⟩ := bindE hm
          refine wS_calls (d := 38) (f := 118) (vs := [.int .i64 (x75), .int .i64 ((-1)), .int .i64 (1)]) (by kernel_rfl) ent118 (c_spec_l00In hy78) ?_
          rintro _ w79 ⟨rfl, hc80⟩
          replace F64 := F64.chg hc80 Dj.nil
          replace F65 := F65.chg hc80 Dj.nil
          replace F66 := F66.chg hc80 Dj.nil
          replace F67 := F67.chg hc80 notNil
          replace hB := hB.inS hc80 inNil
          replace hZ := Nat.le_trans hZ hc80.size
          refine ⟨.bool (y77), rfl, ?_⟩
          refine wS_pure 1 [(39, .bool (!y77))] (by kernel_rfl) ?_
          refine wS_end (by rfl) ?_
          refine eX_then ?_
          refine cW_cond (t := !y77) (by kernel_rfl) (fun hb81 => ?_) (fun hb81 => ?_)
          · have hm := condT hb81 hm
            refine cW_seq ?_
            refine cW_region ?_
            refine wS_pure 1 [(2, .bool (false))] (by kernel_rfl) ?_
            refine wS_end (by rfl) ?_
            refine eX_then ?_
            refine cW_ret ?_
            refine eX_block_ret ?_
            refine eX_then_ret ?_
            have hq : (some (Ctl.out (Sum.inr false)) : Option (Ctl (Int) (Sum (Unit) ((Bool))))) = some _ := hm
            replace hq := someE hq
            subst hq
            refine eX_outR hx73 (fun hr => ?_)
            subst hr
            refine eX_block_ret ?_
            refine eX_then_ret ?_
            refine eX_then_ret ?_
            have hq : (some false : Option ((Bool))) = some _ := hm70
            replace hq := someE hq
            subst hq
            refine eX_ret (vs := [.bool (false)]) [.tmp 2] (by rfl) ⟨by (show lkE _ _ _ = _); kernel_rfl, trivial⟩ ?_
            exact ⟨rfl, hB⟩
          · have hm := condF hb81 hm
            refine cW_skip ?_
            refine eX_block ?_
            refine eX_then ?_
            refine cW_region ?_
            refine wS_pure 3 [(3, .int .i64 (wr (x62 + 1))), (30, .int .i64 (wr (x62 + 1))), (29, .int .i64 (x62))] (by kernel_rfl) ?_
            refine wS_end (by rfl) ?_
            have hq : (some (Ctl.next (wr (x62 + 1))) : Option (Ctl (Int) (Sum (Unit) ((Bool))))) = some _ := hm
            replace hq := someE hq
            subst hq
            exact eX_next hx73 (fun hst => ⟨wr (x62 + 1), rfl, Fr.of hst (by kernel_rfl), F64, F65, F66, F67, hB, hZ⟩)
        · have hm := condF hb74 hm
          refine cW_exit ?_
          refine eX_then_exit ?_
          have hq : (some (Ctl.out (Sum.inl (()))) : Option (Ctl (Int) (Sum (Unit) ((Bool))))) = some _ := hm
          replace hq := someE hq
          subst hq
          refine eX_outX hx73 (fun hr82 => ?_)
          replace hr82 := hr82.symm
          subst hr82
          refine eX_block_hit ?_
          exact eX_J (fun hst => ⟨rfl, Fr.of hst (by kernel_rfl), F64, F65, F66, F67, hB, hZ⟩)
      · rintro a' w55 ⟨hJ, hF56, F57, F58, F59, F60, hB, hZ⟩
        subst hJ
        refine Fr.goX hF56 (by kernel_rfl) ?_
        refine eX_then ?_
        refine cW_seq ?_
        refine cW_drawnTail [] 18 (by kernel_rfl) (by kernel_rfl) (fun w98 hc99 => ?_)
        replace F57 := F57.chg hc99 Dj.nil
        replace F58 := F58.chg hc99 Dj.nil
        replace F59 := F59.chg hc99 Dj.nil
        replace F60 := F60.chg hc99 notNil
        replace hB := hB.inS hc99 inNil
        replace hZ := Nat.le_trans hZ hc99.size
        have hS := Chg.refl [] w98
        have Z100 := F57
        have Z101 := F58
        have Z102 := F59
        have Z103 := F60
        refine wH_take [0, 1, 2] [2, 1, 0] [(42, .pointer (some ⟨b0, 1, none⟩)), (41, .pointer (some ⟨b0, 0, none⟩)), (40, .pointer (some ⟨b0, 0, none⟩))] (by kernel_rfl) (qT (qT qZ)) (by kernel_rfl) ?_
        refine wH_load1 (i := 3) (d := 43) (T := 37) (ad := ⟨b0, 1, none⟩) (v := .slice A0_1 (l0_1).length cap0_1) (by kernel_rfl) (qT (qT qZ)) (by kernel_rfl) (by kernel_rfl) vt37 (fun W hW => (Z103.chg hW notNil).cell 1) ?_
        refine wH_take [4, 5, 6] [6, 5, 4, 3, 2, 1, 0] [(46, .pointer (some ⟨b0, 0, none⟩)), (45, .pointer (some ⟨b0, 0, none⟩)), (44, .pointer (some ⟨b0, 0, none⟩))] (by kernel_rfl) (qT (qT qZ)) (by kernel_rfl) ?_
        refine wH_load1 (i := 7) (d := 47) (T := 2) (ad := ⟨b0, 0, none⟩) (v := .int .i64 (q0_0)) (by kernel_rfl) (qT (qT qZ)) (by kernel_rfl) (by kernel_rfl) vt2 (fun W hW => (Z103.chg hW notNil).cell 0) ?_
        refine wH_all [8] (by rfl) (by kernel_rfl) (by simp) ⟨⟨by kernel_rfl, ?_⟩, trivial⟩
        obtain ⟨y104, hy105, hm⟩ := bindE hm
        refine wS_calls (d := 48) (f := 123) (vs := [.slice A0_1 (l0_1).length cap0_1, .int .i64 (q0_0), .int .i64 (2)]) (by kernel_rfl) ent123 (c_spec_l07Lists hy105 F57) ?_
        rintro _ w106 ⟨rfl, hc107⟩
        replace F57 := F57.chg hc107 Dj.nil
        replace F58 := F58.chg hc107 Dj.nil
        replace F59 := F59.chg hc107 Dj.nil
        replace F60 := F60.chg hc107 notNil
        replace hB := hB.inS hc107 inNil
        have hSz := hS
        replace hS := hS.inS hc107 inNil
        replace hZ := Nat.le_trans hZ hc107.size
        refine ⟨.bool (y104), rfl, ?_⟩
        refine wS_end (by kernel_rfl) ?_
        refine eX_KH hS ?_
        refine wH_take [9] [9, 8, 7, 6, 5, 4, 3, 2, 1, 0] [(49, .bool (y104))] (by kernel_rfl) (qT (qT qZ)) (by kernel_rfl) ?_
        refine wH_bool y104 (fun hb108 => ?_) (fun hb108 => ?_)
        · have hm := condT hb108 hm
          rewrite [hb108]
          refine wH_take [10, 11, 12] [12, 11, 10, 9, 8, 7, 6, 5, 4, 3, 2, 1, 0] [(52, .pointer (some ⟨b0, 2, none⟩)), (51, .pointer (some ⟨b0, 0, none⟩)), (50, .pointer (some ⟨b0, 0, none⟩))] (by kernel_rfl) (qT (qT qZ)) (by kernel_rfl) ?_
          refine wH_load1 (i := 13) (d := 53) (T := 37) (ad := ⟨b0, 2, none⟩) (v := .slice A0_2 (l0_2).length cap0_2) (by kernel_rfl) (qT (qT qZ)) (by kernel_rfl) (by kernel_rfl) vt37 (fun W hW => (Z103.chg hW notNil).cell 2) ?_
          refine wH_take [14, 15, 16] [16, 15, 14, 13, 12, 11, 10, 9, 8, 7, 6, 5, 4, 3, 2, 1, 0] [(56, .pointer (some ⟨b0, 0, none⟩)), (55, .pointer (some ⟨b0, 0, none⟩)), (54, .pointer (some ⟨b0, 0, none⟩))] (by kernel_rfl) (qT (qT qZ)) (by kernel_rfl) ?_
          refine wH_load1 (i := 17) (d := 57) (T := 2) (ad := ⟨b0, 0, none⟩) (v := .int .i64 (q0_0)) (by kernel_rfl) (qT (qT qZ)) (by kernel_rfl) (by kernel_rfl) vt2 (fun W hW => (Z103.chg hW notNil).cell 0) ?_
          refine wH_done (by kernel_rfl) ?_
          refine eX_tail ?_
          obtain ⟨y109, hy110, hm⟩ := bindE hm
          refine wS_calls (d := 58) (f := 123) (vs := [.slice A0_2 (l0_2).length cap0_2, .int .i64 (q0_0), .int .i64 (3)]) (by kernel_rfl) ent123 (c_spec_l07Lists hy110 F58) ?_
          rintro _ w111 ⟨rfl, hc112⟩
          replace F57 := F57.chg hc112 Dj.nil
          replace F58 := F58.chg hc112 Dj.nil
          replace F59 := F59.chg hc112 Dj.nil
          replace F60 := F60.chg hc112 notNil
          replace hB := hB.inS hc112 inNil
          replace hZ := Nat.le_trans hZ hc112.size
          refine ⟨.bool (y109), rfl, ?_⟩
          refine wS_pure 2 [(2, .bool (y109)), (59, .bool (y109))] (by kernel_rfl) ?_
          refine wS_end (by rfl) ?_
          refine eX_then ?_
          refine cW_ret ?_
          have hq : (some y109 : Option ((Bool))) = some _ := hm
          replace hq := someE hq
          subst hq
          refine eX_ret (vs := [.bool (y109)]) [.tmp 2] (by rfl) ⟨by (show lkE _ _ _ = _); kernel_rfl, trivial⟩ ?_
          exact ⟨rfl, hB⟩
        · have hm := condF hb108 hm
          rewrite [hb108]
          refine wH_take [10, 11, 12, 13, 14, 15, 16, 17] [17, 16, 15, 14, 13, 12, 11, 10, 9, 8, 7, 6, 5, 4, 3, 2, 1, 0] [(57, undef), (56, undef), (55, undef), (54, undef), (53, undef), (52, undef), (51, undef), (50, undef)] (by kernel_rfl) (qT (qT qZ)) (by kernel_rfl) ?_
          refine wH_done (by kernel_rfl) ?_
          refine eX_tail ?_
          refine wS_pure 3 [(2, .bool (false)), (59, .bool (false)), (58, undef)] (by kernel_rfl) ?_
          refine wS_end (by rfl) ?_
          refine eX_then ?_
          refine cW_ret ?_
          have hq : (some false : Option ((Bool))) = some _ := hm
          replace hq := someE hq
          subst hq
          refine eX_ret (vs := [.bool (false)]) [.tmp 2] (by rfl) ⟨by (show lkE _ _ _ = _); kernel_rfl, trivial⟩ ?_
          exact ⟨rfl, hB⟩

set_option maxRecDepth 100000 in
/-- spec.ValidWiring -/
theorem c_spec_ValidWiring {w0 : World} {p0_0 : Int} {l0_1 : List (List (Int))} {A0_1 : Option Addr} {cap0_1 : Nat} {fp0_1 : List Nat} {l0_2 : List (List (Int))} {A0_2 : Option Addr} {cap0_2 : Nat} {fp0_2 : List Nat} {l0_3 : List (Int)} {A0_3 : Option Addr} {cap0_3 : Nat} {fp0_3 : List Nat} {r : (Bool)} (hm : m_spec_ValidWiring p0_0 l0_1 l0_2 l0_3 = some r) (F0_1 : SlR 1 encI w0 fp0_1 A0_1 l0_1) (F0_2 : SlR 1 encI w0 fp0_2 A0_2 l0_2) (F0_3 : Sl 1 encI w0 fp0_3 A0_3 l0_3) :
    Calls Try.prog 25 #[.agg #[.int .i64 (p0_0), .slice A0_1 (l0_1).length cap0_1, .slice A0_2 (l0_2).length cap0_2, .slice A0_3 (l0_3).length cap0_3]] w0 fun e w' => e = .returned (.bool (r)) ∧ Chg [] w0 w' := by
  have L0_1 := F0_1.low
  have L0_2 := F0_2.low
  have L0_3 := F0_3.low
  have hB : Chg [] w0 w0 := Chg.refl _ _
  have hZ := Nat.le_refl w0.heap.size
  unfold m_spec_ValidWiring at hm
  refine enterE (N := 4) Try.func25 (by rfl) Try.ntmps25 (by simp) [(0, .agg #[.int .i64 (p0_0), .slice A0_1 (l0_1).length cap0_1, .slice A0_2 (l0_2).length cap0_2, .slice A0_3 (l0_3).length cap0_3])] (by rfl) (by kernel_rfl) (fun a => ?_)
  refine cW_seq ?_
  refine cW_region ?_
  refine wS_box (d := 1) (T := 43) (x := .agg #[.int .i64 (p0_0), .slice A0_1 (l0_1).length cap0_1, .slice A0_2 (l0_2).length cap0_2, .slice A0_3 (l0_3).length cap0_3]) (by kernel_rfl) ?_
  intro b4 w5 G6 F7 hc8
  replace F7 : Cl w5 b4 43 [.int .i64 (p0_0), .slice A0_1 (l0_1).length cap0_1, .slice A0_2 (l0_2).length cap0_2, .slice A0_3 (l0_3).length cap0_3] := F7
  replace F0_1 := F0_1.chg hc8 Dj.nil
  replace F0_2 := F0_2.chg hc8 Dj.nil
  replace F0_3 := F0_3.chg hc8 Dj.nil
  replace hB := hB.inS hc8 inNil
  replace G6 := Nat.le_trans hZ G6
  replace hZ := Nat.le_trans hZ hc8.size
  refine wS_pure 1 [(2, .bool (false))] (by kernel_rfl) ?_
  refine wS_end (by rfl) ?_
  refine eX_then ?_
  refine cW_seq ?_
  refine cW_region ?_
  obtain ⟨y10, hy11, hm⟩ := bindE hm
  refine wS_calls (d := 3) (f := 82) (vs := [.pointer (some ⟨b4, 0, none⟩)]) (by kernel_rfl) ent82 (c_spec_l07Is_bimplWiring hy11 F0_1 F0_2 F0_3 F7) ?_
  rintro _ w12 ⟨rfl, hc13⟩
  replace F0_1 := F0_1.chg hc13 Dj.nil
  replace F0_2 := F0_2.chg hc13 Dj.nil
  replace F0_3 := F0_3.chg hc13 Dj.nil
  replace F7 := F7.chg hc13 notNil
  replace hB := hB.inS hc13 inNil
  replace hZ := Nat.le_trans hZ hc13.size
  refine ⟨.bool (y10), rfl, ?_⟩
  refine wS_pure 1 [(2, .bool (y10))] (by kernel_rfl) ?_
  refine wS_end (by rfl) ?_
  refine eX_then ?_
  refine cW_ret ?_
  have hq : (some y10 : Option ((Bool))) = some _ := hm
  replace hq := someE hq
  subst hq
  refine eX_ret (vs := [.bool (y10)]) [.tmp 2] (by rfl) ⟨by (show lkE _ _ _ = _); kernel_rfl, trivial⟩ ?_
  exact ⟨rfl, hB⟩

set_option maxRecDepth 100000 in
/-- laws.toInt64S -/
theorem c_laws_toInt64S {w0 : World} {l0 : List (Int)} {A0 : Option Addr} {cap0 : Nat} {fp0 : List Nat} {r : (List (Int))} (hm : m_laws_toInt64S l0 = some r) (F0 : Sl 1 encI w0 fp0 A0 l0) :
    Calls Try.prog 47 #[.slice A0 (l0).length cap0] w0 fun e w' => ∃ A100 cap100 fp100, e = .returned (.slice A100 (r).length cap100) ∧ Ow 1 encI 2 w' fp100 A100 cap100 r ∧ (∀ x ∈ fp100, w0.heap.size ≤ x) ∧ Chg [] w0 w' := by
  have L0 := F0.low
  have hB : Chg [] w0 w0 := Chg.refl _ _
  have hZ := Nat.le_refl w0.heap.size
  unfold m_laws_toInt64S at hm
  refine enterE (N := 22) Try.func47 (by rfl) Try.ntmps47 (by simp) [(0, .slice A0 (l0).length cap0)] (by rfl) (by kernel_rfl) (fun a => ?_)
  refine cW_seq ?_
  refine cW_region ?_
  refine wS_pure 1 [(2, .slice none 0 0)] (by kernel_rfl) ?_
  refine wS_end (by rfl) ?_
  refine eX_then ?_
  refine cW_seq ?_
  refine cW_region ?_
  refine wS_pure 2 [(6, .int .i64 (((l0).length : Int))), (5, .slice A0 (l0).length cap0)] (by kernel_rfl) ?_
  obtain ⟨_, hk2, hm⟩ := bindE hm
  replace hk2 := mkE hk2
  refine wS_make (enc := encI) (x0 := (0 : Int)) (d := 7) (t := 38) (T := 2) (k1 := .i64) (k2 := .i64) (m := ((l0).length : Int)) (by kernel_rfl) el38 encI_ok (by rfl) hk2.1 hk2.2 ?_
  intro b3 w4 G5 F6 hc7
  replace F0 := F0.chg hc7 Dj.nil
  replace hB := hB.inS hc7 inNil
  replace G5 := Nat.le_trans hZ G5
  replace G5 := low1 G5
  replace hZ := Nat.le_trans hZ hc7.size
  refine wS_pure 1 [(3, .slice (some ⟨b3, 0, none⟩) (List.replicate (Int.toNat (((l0).length : Int))) ((0 : Int))).length (Int.toNat (((l0).length : Int))))] (by kernel_rfl) ?_
  refine wS_end (by rfl) ?_
  refine eX_then ?_
  refine cW_seq ?_
  refine cW_seq ?_
  refine cW_region ?_
  refine wS_pure 1 [(4, .int .i64 (0))] (by kernel_rfl) ?_
  refine wS_end (by rfl) ?_
  refine eX_then ?_
  obtain ⟨r43, hr44, hm⟩ := bindE hm
  have hm45 := hm
  refine cW_cut (fun a' w' => ∃ l34 : List (Int), l34 = r43 ∧ Fr 22 [(3, .slice (some ⟨b3, 0, none⟩) (l34).length (Int.toNat (((l0).length : Int))))] a' ∧ Ow 1 encI 2 w' [b3] (some ⟨b3, 0, none⟩) (Int.toNat (((l0).length : Int))) l34 ∧ Chg [] w0 w' ∧ w0.heap.size ≤ w'.heap.size) ?_ ?_
  · refine cW_block ?_
    refine cW_loop _ (fun (s46 : Int × (List (Int))) a' w' => ∃ x38 : Int, ∃ l39 : List (Int), (x38, l39) = s46 ∧ Fr 22 [(0, .slice A0 (l0).length cap0), (3, .slice (some ⟨b3, 0, none⟩) (l39).length (Int.toNat (((l0).length : Int)))), (4, .int .i64 (x38))] a' ∧ Sl 1 encI w' fp0 A0 l0 ∧ Ow 1 encI 2 w' [b3] (some ⟨b3, 0, none⟩) (Int.toNat (((l0).length : Int))) l39 ∧ Chg [] w0 w' ∧ w0.heap.size ≤ w'.heap.size) hr44 (fun hst => ⟨0, List.replicate (Int.toNat (((l0).length : Int))) ((0 : Int)), rfl, Fr.of hst (by kernel_rfl), F0, F6, hB, hZ⟩) ?_
    rintro _ c47 a' w37 ⟨x38, l39, rfl, hF40, F41, F42, hB, hZ⟩ hx48
    refine Fr.goOn hF40 (by kernel_rfl) ?_
    have hm := hx48
    unfold m_laws_toInt64S_s1 at hm
    refine cW_seq ?_
    refine cW_seq ?_
    refine cW_region ?_
    refine wS_pure 4 [(11, .bool (decide (x38 < (((l0).length : Int))))), (10, .int .i64 (((l0).length : Int))), (9, .slice A0 (l0).length cap0), (8, .int .i64 (x38))] (by kernel_rfl) ?_
    refine wS_end (by rfl) ?_
    refine eX_then ?_
    refine cW_cond (t := decide (x38 < (((l0).length : Int)))) (by kernel_rfl) (fun hb49 => ?_) (fun hb49 => ?_)
    · have hm := condT hb49 hm
      refine cW_skip ?_
      refine eX_then ?_
      refine cW_seq ?_
      refine cW_block ?_
      refine cW_region ?_
      refine wS_pure 4 [(17, .int .i64 (x38)), (16, .slice A0 (l0).length cap0), (15, .int .i64 (x38)), (14, .slice (some ⟨b3, 0, none⟩) (l39).length (Int.toNat (((l0).length : Int))))] (by kernel_rfl) ?_
      obtain ⟨x50, hx51, hm⟩ := bindE hm
      refine wS_idx (d := 18) (T := 38) (A := A0) (n := (l0).length) (cap := cap0) (kd := .i64) (m := x38) (by kernel_rfl) sl38 (F41.is hx51) ?_
      refine wS_load1 (d := 19) (T := 2) (ad := (elA A0 1 (x38) 0)) (v := .int .i64 (x50)) (by kernel_rfl) vt2 (Sl.cell F41 hx51 0 (by rfl)) ?_
      obtain ⟨x52, hx53, hm⟩ := bindE hm
      refine wS_idx (d := 20) (T := 38) (A := (some ⟨b3, 0, none⟩)) (n := (l39).length) (cap := (Int.toNat (((l0).length : Int)))) (kd := .i64) (m := x38) (by kernel_rfl) sl38 ((F42.sl encI_ok).is hx53) ?_
      refine wS_storeEl (x := x52) x50 (T := 2) (U := 2) (cap := (Int.toNat (((l0).length : Int)))) (j := 0) (A := (some ⟨b3, 0, none⟩)) (v := .int .i64 (x50)) (vs := [.int .i64 (x50)]) (m := x38) (by kernel_rfl) (by rfl) sz2 (by rfl) encI_ok F42 hx53 (by simp only [List.length_cons, List.length_nil]; omega) (by rfl) ?_
      intro w54 F55 hc56
      replace F41 := F41.chg hc56 (Dj.of L0 G5)
      replace hB := hB.inS hc56 (inLow G5)
      replace hZ := Nat.le_trans hZ hc56.size
      clear F42
      rewrite [show (l39).length = (l39.set (Int.toNat x38) x50).length from (List.length_set ..).symm]
      refine wS_end (by rfl) ?_
      refine eX_block ?_
      refine eX_then ?_
      refine cW_region ?_
      refine wS_pure 3 [(4, .int .i64 (wr (x38 + 1))), (13, .int .i64 (wr (x38 + 1))), (12, .int .i64 (x38))] (by kernel_rfl) ?_
      refine wS_end (by rfl) ?_
      have hq : (some (Ctl.next ((wr (x38 + 1), l39.set (Int.toNat x38) x50))) : Option (Ctl (Int × (List (Int))) ((List (Int))))) = some _ := hm
      replace hq := someE hq
      subst hq
      exact eX_next hx48 (fun hst => ⟨wr (x38 + 1), l39.set (Int.toNat x38) x50, rfl, Fr.of hst (by kernel_rfl), F41, F55, hB, hZ⟩)
    · have hm := condF hb49 hm
      refine cW_exit ?_
      refine eX_then_exit ?_
      have hq : (some (Ctl.out l39) : Option (Ctl (Int × (List (Int))) ((List (Int))))) = some _ := hm
      replace hq := someE hq
      subst hq
      refine eX_outX hx48 (fun hr57 => ?_)
      replace hr57 := hr57.symm
      subst hr57
      refine eX_block_hit ?_
      exact eX_J (fun hst => ⟨l39, rfl, Fr.of hst (by kernel_rfl), F42, hB, hZ⟩)
  · rintro a' w33 ⟨l34, hJ, hF35, F36, hB, hZ⟩
    subst hJ
    refine Fr.goX hF35 (by kernel_rfl) ?_
    refine eX_then ?_
    refine cW_seq ?_
    refine cW_region ?_
    refine wS_pure 2 [(2, .slice (some ⟨b3, 0, none⟩) (l34).length (Int.toNat (((l0).length : Int)))), (21, .slice (some ⟨b3, 0, none⟩) (l34).length (Int.toNat (((l0).length : Int))))] (by kernel_rfl) ?_
    refine wS_end (by rfl) ?_
    refine eX_then ?_
    refine cW_ret ?_
    have hq : (some l34 : Option ((List (Int)))) = some _ := hm
    replace hq := someE hq
    subst hq
    refine eX_ret (vs := [.slice (some ⟨b3, 0, none⟩) (l34).length (Int.toNat (((l0).length : Int)))]) [.tmp 2] (by rfl) ⟨by (show lkE _ _ _ = _); kernel_rfl, trivial⟩ ?_
    exact ⟨(some ⟨b3, 0, none⟩), (Int.toNat (((l0).length : Int))), [b3], rfl, F36, G5, hB⟩

set_option maxRecDepth 100000 in
/-- laws.toInt64SS -/
theorem c_laws_toInt64SS {w0 : World} {l0 : List (List (Int))} {A0 : Option Addr} {cap0 : Nat} {fp0 : List Nat} {r : (List (List (Int)))} (hm : m_laws_toInt64SS l0 = some r) (F0 : SlR 1 encI w0 fp0 A0 l0) :
    Calls Try.prog 83 #[.slice A0 (l0).length cap0] w0 fun e w' => ∃ A100 cap100 fp100 fr100, e = .returned (.slice A100 (r).length cap100) ∧ OwR 1 encI 38 2 w' fp100 fr100 A100 cap100 r ∧ (∀ x ∈ fp100 ++ fr100, w0.heap.size ≤ x) ∧ Chg [] w0 w' := by
  have L0 := F0.low
  have hB : Chg [] w0 w0 := Chg.refl _ _
  have hZ := Nat.le_refl w0.heap.size
  unfold m_laws_toInt64SS at hm
  refine enterE (N := 23) Try.func83 (by rfl) Try.ntmps83 (by simp) [(0, .slice A0 (l0).length cap0)] (by rfl) (by kernel_rfl) (fun a => ?_)
  refine cW_seq ?_
  refine cW_region ?_
  refine wS_pure 1 [(2, .slice none 0 0)] (by kernel_rfl) ?_
  refine wS_end (by rfl) ?_
  refine eX_then ?_
  refine cW_seq ?_
  refine cW_region ?_
  refine wS_pure 2 [(6, .int .i64 (((l0).length : Int))), (5, .slice A0 (l0).length cap0)] (by kernel_rfl) ?_
  obtain ⟨_, hk2, hm⟩ := bindE hm
  replace hk2 := mkE hk2
  refine wS_makeR (T2 := 2) (k := 1) (enc := encI) (d := 7) (t := 37) (T := 38) (k1 := .i64) (k2 := .i64) (m := ((l0).length : Int)) (by kernel_rfl) el37 hk2.1 hk2.2 ?_
  intro b3 w4 G5 F6 hc7
  replace F0 := F0.chg hc7 Dj.nil
  replace hB := hB.inS hc7 inNil
  replace G5 := Nat.le_trans hZ G5
  replace G5 := low1 G5
  replace hZ := Nat.le_trans hZ hc7.size
  replace G5 := lowApp G5 lowNil
  refine wS_pure 1 [(3, .slice (some ⟨b3, 0, none⟩) (List.replicate (Int.toNat (((l0).length : Int))) ([] : List (Int))).length (Int.toNat (((l0).length : Int))))] (by kernel_rfl) ?_
  refine wS_end (by rfl) ?_
  refine eX_then ?_
  refine cW_seq ?_
  refine cW_seq ?_
  refine cW_region ?_
  refine wS_pure 1 [(4, .int .i64 (0))] (by kernel_rfl) ?_
  refine wS_end (by rfl) ?_
  refine eX_then ?_
  obtain ⟨r109, hr110, hm⟩ := bindE hm
  have hm111 := hm
  refine cW_cut (fun a' w' => ∃ l88 : List (List (Int)), ∃ A89 : Option Addr, ∃ cap90 : Nat, ∃ fp91 : List Nat, ∃ fr93 : List Nat, l88 = r109 ∧ Fr 23 [(3, .slice A89 (l88).length cap90)] a' ∧ OwR 1 encI 38 2 w' fp91 fr93 A89 cap90 l88 ∧ (∀ x ∈ (fp91 ++ fr93), w0.heap.size ≤ x) ∧ Chg [] w0 w' ∧ w0.heap.size ≤ w'.heap.size) ?_ ?_
  · refine cW_block ?_
    refine cW_loop _ (fun (s112 : (List (List (Int))) × Int) a' w' => ∃ l98 : List (List (Int)), ∃ A99 : Option Addr, ∃ cap100 : Nat, ∃ fp101 : List Nat, ∃ fr103 : List Nat, ∃ x104 : Int, (l98, x104) = s112 ∧ Fr 23 [(0, .slice A0 (l0).length cap0), (3, .slice A99 (l98).length cap100), (4, .int .i64 (x104))] a' ∧ SlR 1 encI w' fp0 A0 l0 ∧ OwR 1 encI 38 2 w' fp101 fr103 A99 cap100 l98 ∧ (∀ x ∈ (fp101 ++ fr103), w0.heap.size ≤ x) ∧ Chg [] w0 w' ∧ w0.heap.size ≤ w'.heap.size) hr110 (fun hst => ⟨List.replicate (Int.toNat (((l0).length : Int))) ([] : List (Int)), (some ⟨b3, 0, none⟩), (Int.toNat (((l0).length : Int))), [b3], [], 0, rfl, Fr.of hst (by kernel_rfl), F0, F6, G5, hB, hZ⟩) ?_
    rintro _ c113 a' w97 ⟨l98, A99, cap100, fp101, fr103, x104, rfl, hF105, F106, F107, G108, hB, hZ⟩ hx114
    refine Fr.goOn hF105 (by kernel_rfl) ?_
    have hm := hx114
    unfold m_laws_toInt64SS_s1 at hm
    refine cW_seq ?_
    refine cW_seq ?_
    refine cW_region ?_
    refine wS_pure 4 [(11, .bool (decide (x104 < (((l0).length : Int))))), (10, .int .i64 (((l0).length : Int))), (9, .slice A0 (l0).length cap0), (8, .int .i64 (x104))] (by kernel_rfl) ?_
    refine wS_end (by rfl) ?_
    refine eX_then ?_
    refine cW_cond (t := decide (x104 < (((l0).length : Int)))) (by kernel_rfl) (fun hb115 => ?_) (fun hb115 => ?_)
    · have hm := condT hb115 hm
      refine cW_skip ?_
      refine eX_then ?_
      refine cW_seq ?_
      refine cW_block ?_
      refine cW_region ?_
      refine wS_pure 4 [(17, .int .i64 (x104)), (16, .slice A0 (l0).length cap0), (15, .int .i64 (x104)), (14, .slice A99 (l98).length cap100)] (by kernel_rfl) ?_
      obtain ⟨x116, hx117, hm⟩ := bindE hm
      refine wS_idx (d := 18) (T := 37) (A := A0) (n := (l0).length) (cap := cap0) (kd := .i64) (m := x104) (by kernel_rfl) sl37 (F106.is hx117) ?_
      obtain ⟨A118, cap119, hc121, F120, K122⟩ := SlR.row F106 hx117
      refine wS_load1 (d := 19) (T := 38) (ad := (elA A0 1 (x104) 0)) (v := .slice A118 (x116).length cap119) (by kernel_rfl) vt38 hc121 ?_
      obtain ⟨y124, hy125, hm⟩ := bindE hm
      refine wS_calls (d := 20) (f := 47) (vs := [.slice A118 (x116).length cap119]) (by kernel_rfl) ent47 (c_laws_toInt64S hy125 F120) ?_
      rintro _ w126 ⟨A128, cap129, fp130, rfl, F131, G132, hc127⟩
      have D135 : Dj (fp101 ++ fr103) fp130 := Dj.of F107.low G132
      replace F106 := F106.chg hc127 Dj.nil
      replace F107 := F107.chg hc127 Dj.nil
      replace F120 := F120.chg hc127 Dj.nil
      replace hB := hB.inS hc127 inNil
      replace G132 := low_le hZ G132
      replace hZ := Nat.le_trans hZ hc127.size
      refine ⟨.slice A128 (y124).length cap129, rfl, ?_⟩
      obtain ⟨x136, hx137, hm⟩ := bindE hm
      refine wS_idx (d := 21) (T := 37) (A := A99) (n := (l98).length) (cap := cap100) (kd := .i64) (m := x104) (by kernel_rfl) sl37 ((F107.slr encI_ok).is hx137) ?_
      refine wS_storeRow (k := 1) (enc := encI) (x := x136) (l := y124) (T := 38) (U := 38) (cap := cap100) (c := cap129) (A := A99) (B := A128) (m := x104) (by kernel_rfl) sz38 F107 F131 D135 hx137 ?_
      intro w141 F142 hc143
      have G145 := lowApp (low_inl G108) (lowApp (low_inr G108) G132)
      have Dm146 := Dj.inl D135.symm
      replace F106 := F106.chg hc143 (Dj.inl (Dj.of L0 G108))
      replace F120 := F120.chg hc143 (Dj.inl (Dj.of L0 G108))
      replace F131 := F131.chg hc143 (Dj.inl (D135).symm)
      replace hB := hB.inS hc143 (memS_inl (inLow G108))
      replace hZ := Nat.le_trans hZ hc143.size
      replace F131 := (F131.sl encI_ok)
      rewrite [show (l98).length = (l98.set (Int.toNat x104) y124).length from (List.length_set ..).symm]
      refine wS_end (by rfl) ?_
      refine eX_block ?_
      refine eX_then ?_
      refine cW_region ?_
      refine wS_pure 3 [(4, .int .i64 (wr (x104 + 1))), (13, .int .i64 (wr (x104 + 1))), (12, .int .i64 (x104))] (by kernel_rfl) ?_
      refine wS_end (by rfl) ?_
      have hq : (some (Ctl.next ((l98.set (Int.toNat x104) y124, wr (x104 + 1)))) : Option (Ctl ((List (List (Int))) × Int) ((List (List (Int)))))) = some _ := hm
      replace hq := someE hq
      subst hq
      exact eX_next hx114 (fun hst => ⟨l98.set (Int.toNat x104) y124, A99, cap100, fp101, (fr103 ++ fp130), wr (x104 + 1), rfl, Fr.of hst (by kernel_rfl), F106, F142, G145, hB, hZ⟩)
    · have hm := condF hb115 hm
      refine cW_exit ?_
      refine eX_then_exit ?_
      have hq : (some (Ctl.out l98) : Option (Ctl ((List (List (Int))) × Int) ((List (List (Int)))))) = some _ := hm
      replace hq := someE hq
      subst hq
      refine eX_outX hx114 (fun hr147 => ?_)
      replace hr147 := hr147.symm
      subst hr147
      refine eX_block_hit ?_
      exact eX_J (fun hst => ⟨l98, A99, cap100, fp101, fr103, rfl, Fr.of hst (by kernel_rfl), F107, G108, hB, hZ⟩)
  · rintro a' w87 ⟨l88, A89, cap90, fp91, fr93, hJ, hF94, F95, G96, hB, hZ⟩
    subst hJ
    refine Fr.goX hF94 (by kernel_rfl) ?_
    refine eX_then ?_
    refine cW_seq ?_
    refine cW_region ?_
    refine wS_pure 2 [(2, .slice A89 (l88).length cap90), (22, .slice A89 (l88).length cap90)] (by kernel_rfl) ?_
    refine wS_end (by rfl) ?_
    refine eX_then ?_
    refine cW_ret ?_
    have hq : (some l88 : Option ((List (List (Int))))) = some _ := hm
    replace hq := someE hq
    subst hq
    refine eX_ret (vs := [.slice A89 (l88).length cap90]) [.tmp 2] (by rfl) ⟨by (show lkE _ _ _ = _); kernel_rfl, trivial⟩ ?_
    exact ⟨A89, cap90, fp91, fr93, rfl, F95, G96, hB⟩

set_option maxRecDepth 100000 in
/-- laws.toWiring -/
theorem c_laws_toWiring {w0 : World} {p0_0 : Int} {l0_1 : List (List (Int))} {A0_1 : Option Addr} {cap0_1 : Nat} {fp0_1 : List Nat} {l0_2 : List (List (Int))} {A0_2 : Option Addr} {cap0_2 : Nat} {fp0_2 : List Nat} {l0_3 : List (Int)} {A0_3 : Option Addr} {cap0_3 : Nat} {fp0_3 : List Nat} {r : (Int × (List (List (Int))) × (List (List (Int))) × (List (Int)))} (hm : m_laws_toWiring p0_0 l0_1 l0_2 l0_3 = some r) (F0_1 : SlR 1 encI w0 fp0_1 A0_1 l0_1) (F0_2 : SlR 1 encI w0 fp0_2 A0_2 l0_2) (F0_3 : Sl 1 encI w0 fp0_3 A0_3 l0_3) :
    Calls Try.prog 26 #[.agg #[.int .i64 (p0_0), .slice A0_1 (l0_1).length cap0_1, .slice A0_2 (l0_2).length cap0_2, .slice A0_3 (l0_3).length cap0_3]] w0 fun e w' => ∃ A100_1 cap100_1 fp100_1 fr100_1, ∃ A100_2 cap100_2 fp100_2 fr100_2, ∃ A100_3 cap100_3 fp100_3, e = .returned (.agg #[.int .i64 (r.1), .slice A100_1 (r.2.1).length cap100_1, .slice A100_2 (r.2.2.1).length cap100_2, .slice A100_3 (r.2.2.2).length cap100_3]) ∧ OwR 1 encI 38 2 w' fp100_1 fr100_1 A100_1 cap100_1 r.2.1 ∧ (∀ x ∈ fp100_1 ++ fr100_1, w0.heap.size ≤ x) ∧ OwR 1 encI 38 2 w' fp100_2 fr100_2 A100_2 cap100_2 r.2.2.1 ∧ (∀ x ∈ fp100_2 ++ fr100_2, w0.heap.size ≤ x) ∧ Ow 1 encI 2 w' fp100_3 A100_3 cap100_3 r.2.2.2 ∧ (∀ x ∈ fp100_3, w0.heap.size ≤ x) ∧ Dj (fp100_1 ++ fr100_1) (fp100_2 ++ fr100_2) ∧ Dj (fp100_1 ++ fr100_1) fp100_3 ∧ Dj (fp100_2 ++ fr100_2) fp100_3 ∧ Chg [] w0 w' := by
  have L0_1 := F0_1.low
  have L0_2 := F0_2.low
  have L0_3 := F0_3.low
  have hB : Chg [] w0 w0 := Chg.refl _ _
  have hZ := Nat.le_refl w0.heap.size
  unfold m_laws_toWiring at hm
  refine enterE (N := 20) Try.func26 (by rfl) Try.ntmps26 (by simp) [(0, .agg #[.int .i64 (p0_0), .slice A0_1 (l0_1).length cap0_1, .slice A0_2 (l0_2).length cap0_2, .slice A0_3 (l0_3).length cap0_3])] (by rfl) (by kernel_rfl) (fun a => ?_)
  refine cW_seq ?_
  refine cW_region ?_
  refine wS_box (d := 1) (T := 40) (x := .agg #[.int .i64 (p0_0), .slice A0_1 (l0_1).length cap0_1, .slice A0_2 (l0_2).length cap0_2, .slice A0_3 (l0_3).length cap0_3]) (by kernel_rfl) ?_
  intro b4 w5 G6 F7 hc8
  replace F7 : Cl w5 b4 40 [.int .i64 (p0_0), .slice A0_1 (l0_1).length cap0_1, .slice A0_2 (l0_2).length cap0_2, .slice A0_3 (l0_3).length cap0_3] := F7
  replace F0_1 := F0_1.chg hc8 Dj.nil
  replace F0_2 := F0_2.chg hc8 Dj.nil
  replace F0_3 := F0_3.chg hc8 Dj.nil
  replace hB := hB.inS hc8 inNil
  replace G6 := Nat.le_trans hZ G6
  replace hZ := Nat.le_trans hZ hc8.size
  refine wS_alloc (d := 2) (T := 43) (z := .agg #[.int .i64 (0), .slice none 0 0, .slice none 0 0, .slice none 0 0]) (by kernel_rfl) (by kernel_rfl) ?_
  intro b10 w11 G12 F13 hc14
  replace F13 : Cl w11 b10 43 [.int .i64 (0), .slice none 0 0, .slice none 0 0, .slice none 0 0] := F13
  have D16 : Dj [b4] [b10] := Dj.of (lt1 F7.lt) (low1 G12)
  replace F0_1 := F0_1.chg hc14 Dj.nil
  replace F0_2 := F0_2.chg hc14 Dj.nil
  replace F0_3 := F0_3.chg hc14 Dj.nil
  replace F7 := F7.chg hc14 notNil
  replace hB := hB.inS hc14 inNil
  replace G12 := Nat.le_trans hZ G12
  replace hZ := Nat.le_trans hZ hc14.size
  refine wS_end (by rfl) ?_
  refine eX_then ?_
  refine cW_seq ?_
  refine cW_region ?_
  refine wS_alloc (d := 3) (T := 43) (z := .agg #[.int .i64 (0), .slice none 0 0, .slice none 0 0, .slice none 0 0]) (by kernel_rfl) (by kernel_rfl) ?_
  intro b17 w18 G19 F20 hc21
  replace F20 : Cl w18 b17 43 [.int .i64 (0), .slice none 0 0, .slice none 0 0, .slice none 0 0] := F20
  have D23 : Dj [b4] [b17] := Dj.of (lt1 F7.lt) (low1 G19)
  have D24 : Dj [b10] [b17] := Dj.of (lt1 F13.lt) (low1 G19)
  replace F0_1 := F0_1.chg hc21 Dj.nil
  replace F0_2 := F0_2.chg hc21 Dj.nil
  replace F0_3 := F0_3.chg hc21 Dj.nil
  replace F7 := F7.chg hc21 notNil
  replace F13 := F13.chg hc21 notNil
  replace hB := hB.inS hc21 inNil
  replace G19 := Nat.le_trans hZ G19
  replace hZ := Nat.le_trans hZ hc21.size
  refine wS_end (by rfl) ?_
  refine eX_then ?_
  refine cW_seq ?_
  refine cW_region ?_
  refine wS_pure 1 [(4, .pointer (some ⟨b4, 0, none⟩))] (by kernel_rfl) ?_
  refine wS_load1 (d := 5) (T := 2) (ad := ⟨b4, 0, none⟩) (v := .int .i64 (p0_0)) (by kernel_rfl) vt2 ((F7).cell 0) ?_
  refine wS_pure 1 [(6, .pointer (some ⟨b17, 0, none⟩))] (by kernel_rfl) ?_
  refine wS_store (T := 2) (g := b17) (o := 0) (ad := ⟨b17, 0, none⟩) (v := .int .i64 (p0_0)) (vs := [.int .i64 (p0_0)]) (by kernel_rfl) (by rfl) sz2 (by rfl) (by rfl) F20 (by simp only [List.length_cons, List.length_nil]; omega) ?_
  intro w25 F26 hc27
  replace F0_1 := F0_1.chg hc27 (Dj.of L0_1 (low1 G19))
  replace F0_2 := F0_2.chg hc27 (Dj.of L0_2 (low1 G19))
  replace F0_3 := F0_3.chg hc27 (Dj.of L0_3 (low1 G19))
  replace F7 := F7.chg hc27 (dj1 D23)
  replace F13 := F13.chg hc27 (dj1 D24)
  replace hB := hB.inS hc27 (inLow (low1 G19))
  replace hZ := Nat.le_trans hZ hc27.size
  replace F26 : Cl w25 b17 43 [.int .i64 (p0_0), .slice none 0 0, .slice none 0 0, .slice none 0 0] := F26
  clear F20
  refine wS_end (by rfl) ?_
  refine eX_then ?_
  refine cW_seq ?_
  refine cW_region ?_
  refine wS_pure 1 [(7, .pointer (some ⟨b4, 1, none⟩))] (by kernel_rfl) ?_
  refine wS_load1 (d := 8) (T := 37) (ad := ⟨b4, 1, none⟩) (v := .slice A0_1 (l0_1).length cap0_1) (by kernel_rfl) vt37 ((F7).cell 1) ?_
  obtain ⟨y28, hy29, hm⟩ := bindE hm
  refine wS_calls (d := 9) (f := 83) (vs := [.slice A0_1 (l0_1).length cap0_1]) (by kernel_rfl) ent83 (c_laws_toInt64SS hy29 F0_1) ?_
  rintro _ w30 ⟨A32, cap33, fp34, fr37, rfl, F35, G36, hc31⟩
  have D39 : Dj [b4] (fp34 ++ fr37) := Dj.of (lt1 F7.lt) G36
  have D40 : Dj [b10] (fp34 ++ fr37) := Dj.of (lt1 F13.lt) G36
  have D41 : Dj [b17] (fp34 ++ fr37) := Dj.of (lt1 F26.lt) G36
  replace F0_1 := F0_1.chg hc31 Dj.nil
  replace F0_2 := F0_2.chg hc31 Dj.nil
  replace F0_3 := F0_3.chg hc31 Dj.nil
  replace F7 := F7.chg hc31 notNil
  replace F13 := F13.chg hc31 notNil
  replace F26 := F26.chg hc31 notNil
  replace hB := hB.inS hc31 inNil
  replace G36 := low_le hZ G36
  replace hZ := Nat.le_trans hZ hc31.size
  refine ⟨.slice A32 (y28).length cap33, rfl, ?_⟩
  refine wS_pure 1 [(10, .pointer (some ⟨b17, 1, none⟩))] (by kernel_rfl) ?_
  refine wS_store (T := 37) (g := b17) (o := 1) (ad := ⟨b17, 1, none⟩) (v := .slice A32 (y28).length cap33) (vs := [.slice A32 (y28).length cap33]) (by kernel_rfl) (by rfl) sz37 (by rfl) (by rfl) F26 (by simp only [List.length_cons, List.length_nil]; omega) ?_
  intro w42 F43 hc44
  replace F0_1 := F0_1.chg hc44 (Dj.of L0_1 (low1 G19))
  replace F0_2 := F0_2.chg hc44 (Dj.of L0_2 (low1 G19))
  replace F0_3 := F0_3.chg hc44 (Dj.of L0_3 (low1 G19))
  replace F7 := F7.chg hc44 (dj1 D23)
  replace F13 := F13.chg hc44 (dj1 D24)
  replace F35 := F35.chg hc44 (D41).symm
  replace hB := hB.inS hc44 (inLow (low1 G19))
  replace hZ := Nat.le_trans hZ hc44.size
  replace F43 : Cl w42 b17 43 [.int .i64 (p0_0), .slice A32 (y28).length cap33, .slice none 0 0, .slice none 0 0] := F43
  clear F26
  refine wS_end (by rfl) ?_
  refine eX_then ?_
  refine cW_seq ?_
  refine cW_region ?_
  refine wS_pure 1 [(11, .pointer (some ⟨b4, 2, none⟩))] (by kernel_rfl) ?_
  refine wS_load1 (d := 12) (T := 37) (ad := ⟨b4, 2, none⟩) (v := .slice A0_2 (l0_2).length cap0_2) (by kernel_rfl) vt37 ((F7).cell 2) ?_
  obtain ⟨y45, hy46, hm⟩ := bindE hm
  refine wS_calls (d := 13) (f := 83) (vs := [.slice A0_2 (l0_2).length cap0_2]) (by kernel_rfl) ent83 (c_laws_toInt64SS hy46 F0_2) ?_
  rintro _ w47 ⟨A49, cap50, fp51, fr54, rfl, F52, G53, hc48⟩
  have D56 : Dj [b4] (fp51 ++ fr54) := Dj.of (lt1 F7.lt) G53
  have D57 : Dj [b10] (fp51 ++ fr54) := Dj.of (lt1 F13.lt) G53
  have D58 : Dj [b17] (fp51 ++ fr54) := Dj.of (lt1 F43.lt) G53
  have D59 : Dj (fp34 ++ fr37) (fp51 ++ fr54) := Dj.of F35.low G53
  replace F0_1 := F0_1.chg hc48 Dj.nil
  replace F0_2 := F0_2.chg hc48 Dj.nil
  replace F0_3 := F0_3.chg hc48 Dj.nil
  replace F7 := F7.chg hc48 notNil
  replace F13 := F13.chg hc48 notNil
  replace F43 := F43.chg hc48 notNil
  replace F35 := F35.chg hc48 Dj.nil
  replace hB := hB.inS hc48 inNil
  replace G53 := low_le hZ G53
  replace hZ := Nat.le_trans hZ hc48.size
  refine ⟨.slice A49 (y45).length cap50, rfl, ?_⟩
  refine wS_pure 1 [(14, .pointer (some ⟨b17, 2, none⟩))] (by kernel_rfl) ?_
  refine wS_store (T := 37) (g := b17) (o := 2) (ad := ⟨b17, 2, none⟩) (v := .slice A49 (y45).length cap50) (vs := [.slice A49 (y45).length cap50]) (by kernel_rfl) (by rfl) sz37 (by rfl) (by rfl) F43 (by simp only [List.length_cons, List.length_nil]; omega) ?_
  intro w60 F61 hc62
  replace F0_1 := F0_1.chg hc62 (Dj.of L0_1 (low1 G19))
  replace F0_2 := F0_2.chg hc62 (Dj.of L0_2 (low1 G19))
  replace F0_3 := F0_3.chg hc62 (Dj.of L0_3 (low1 G19))
  replace F7 := F7.chg hc62 (dj1 D23)
  replace F13 := F13.chg hc62 (dj1 D24)
  replace F35 := F35.chg hc62 (D41).symm
  replace F52 := F52.chg hc62 (D58).symm
  replace hB := hB.inS hc62 (inLow (low1 G19))
  replace hZ := Nat.le_trans hZ hc62.size
  replace F61 : Cl w60 b17 43 [.int .i64 (p0_0), .slice A32 (y28).length cap33, .slice A49 (y45).length cap50, .slice none 0 0] := F61
  clear F43
  refine wS_end (by rfl) ?_
  refine eX_then ?_
  refine cW_seq ?_
  refine cW_region ?_
  refine wS_pure 1 [(15, .pointer (some ⟨b4, 3, none⟩))] (by kernel_rfl) ?_
  refine wS_load1 (d := 16) (T := 38) (ad := ⟨b4, 3, none⟩) (v := .slice A0_3 (l0_3).length cap0_3) (by kernel_rfl) vt38 ((F7).cell 3) ?_
  obtain ⟨y63, hy64, hm⟩ := bindE hm
  refine wS_calls (d := 17) (f := 47) (vs := [.slice A0_3 (l0_3).length cap0_3]) (by kernel_rfl) ent47 (c_laws_toInt64S hy64 F0_3) ?_
  rintro _ w65 ⟨A67, cap68, fp69, rfl, F70, G71, hc66⟩
  have D74 : Dj [b4] fp69 := Dj.of (lt1 F7.lt) G71
  have D75 : Dj [b10] fp69 := Dj.of (lt1 F13.lt) G71
  have D76 : Dj [b17] fp69 := Dj.of (lt1 F61.lt) G71
  have D77 : Dj (fp34 ++ fr37) fp69 := Dj.of F35.low G71
  have D78 : Dj (fp51 ++ fr54) fp69 := Dj.of F52.low G71
  replace F0_1 := F0_1.chg hc66 Dj.nil
  replace F0_2 := F0_2.chg hc66 Dj.nil
  replace F0_3 := F0_3.chg hc66 Dj.nil
  replace F7 := F7.chg hc66 notNil
  replace F13 := F13.chg hc66 notNil
  replace F61 := F61.chg hc66 notNil
  replace F35 := F35.chg hc66 Dj.nil
  replace F52 := F52.chg hc66 Dj.nil
  replace hB := hB.inS hc66 inNil
  replace G71 := low_le hZ G71
  replace hZ := Nat.le_trans hZ hc66.size
  refine ⟨.slice A67 (y63).length cap68, rfl, ?_⟩
  refine wS_pure 1 [(18, .pointer (some ⟨b17, 3, none⟩))] (by kernel_rfl) ?_
  refine wS_store (T := 38) (g := b17) (o := 3) (ad := ⟨b17, 3, none⟩) (v := .slice A67 (y63).length cap68) (vs := [.slice A67 (y63).length cap68]) (by kernel_rfl) (by rfl) sz38 (by rfl) (by rfl) F61 (by simp only [List.length_cons, List.length_nil]; omega) ?_
  intro w79 F80 hc81
  replace F0_1 := F0_1.chg hc81 (Dj.of L0_1 (low1 G19))
  replace F0_2 := F0_2.chg hc81 (Dj.of L0_2 (low1 G19))
  replace F0_3 := F0_3.chg hc81 (Dj.of L0_3 (low1 G19))
  replace F7 := F7.chg hc81 (dj1 D23)
  replace F13 := F13.chg hc81 (dj1 D24)
  replace F35 := F35.chg hc81 (D41).symm
  replace F52 := F52.chg hc81 (D58).symm
  replace F70 := F70.chg hc81 (D76).symm
  replace hB := hB.inS hc81 (inLow (low1 G19))
  replace hZ := Nat.le_trans hZ hc81.size
  replace F80 : Cl w79 b17 43 [.int .i64 (p0_0), .slice A32 (y28).length cap33, .slice A49 (y45).length cap50, .slice A67 (y63).length cap68] := F80
  clear F61
  refine wS_end (by rfl) ?_
  refine eX_then ?_
  refine cW_seq ?_
  refine cW_region ?_
  refine wS_loadA (d := 19) (T := 43) (ad := ⟨b17, 0, none⟩) (vs := [.int .i64 (p0_0), .slice A32 (y28).length cap33, .slice A49 (y45).length cap50, .slice A67 (y63).length cap68]) (by kernel_rfl) vt43 (fun i u hu => box_cells F80 0 hu (by rfl)) ?_
  refine wS_store (T := 43) (g := b10) (o := 0) (ad := ⟨b10, 0, none⟩) (v := .agg #[.int .i64 (p0_0), .slice A32 (y28).length cap33, .slice A49 (y45).length cap50, .slice A67 (y63).length cap68]) (vs := [.int .i64 (p0_0), .slice A32 (y28).length cap33, .slice A49 (y45).length cap50, .slice A67 (y63).length cap68]) (by kernel_rfl) (by rfl) sz43 (by rfl) (by rfl) F13 (by simp only [List.length_cons, List.length_nil]; omega) ?_
  intro w82 F83 hc84
  replace F0_1 := F0_1.chg hc84 (Dj.of L0_1 (low1 G12))
  replace F0_2 := F0_2.chg hc84 (Dj.of L0_2 (low1 G12))
  replace F0_3 := F0_3.chg hc84 (Dj.of L0_3 (low1 G12))
  replace F7 := F7.chg hc84 (dj1 D16)
  replace F80 := F80.chg hc84 (dj1 (D24).symm)
  replace F35 := F35.chg hc84 (D40).symm
  replace F52 := F52.chg hc84 (D57).symm
  replace F70 := F70.chg hc84 (D75).symm
  replace hB := hB.inS hc84 (inLow (low1 G12))
  replace hZ := Nat.le_trans hZ hc84.size
  replace F83 : Cl w82 b10 43 [.int .i64 (p0_0), .slice A32 (y28).length cap33, .slice A49 (y45).length cap50, .slice A67 (y63).length cap68] := F83
  clear F13
  refine wS_end (by rfl) ?_
  refine eX_then ?_
  refine cW_ret ?_
  have hq : (some ((p0_0, y28, y45, y63)) : Option ((Int × (List (List (Int))) × (List (List (Int))) × (List (Int))))) = some _ := hm
  replace hq := someE hq
  subst hq
  refine eX_ret (vs := [.agg #[.int .i64 (p0_0), .slice A32 (y28).length cap33, .slice A49 (y45).length cap50, .slice A67 (y63).length cap68]]) [.cell 2 43] (by rfl) ⟨⟨⟨b10, 0, none⟩, by kernel_rfl, run_loadVarA (vs := [.int .i64 (p0_0), .slice A32 (y28).length cap33, .slice A49 (y45).length cap50, .slice A67 (y63).length cap68]) vt43 (fun i u hu => by exact box_cells F83 0 hu (by rfl))⟩, trivial⟩ ?_
  exact ⟨A32, cap33, fp34, fr37, A49, cap50, fp51, fr54, A67, cap68, fp69, rfl, F35, G36, F52, G53, F70, G71, D59, D77, D78, hB⟩

set_option maxRecDepth 100000 in
/-- cmp.isNaN[int64] -/
theorem c_cmp_isNaN_int64 {w0 : World} {p0 : Int} {r : (Bool)} (hm : m_cmp_isNaN_int64 p0 = some r)  :
    Calls Try.prog 162 #[.int .i64 (p0)] w0 fun e w' => e = .returned (.bool (r)) ∧ Chg [] w0 w' := by
  have hB : Chg [] w0 w0 := Chg.refl _ _
  have hZ := Nat.le_refl w0.heap.size
  unfold m_cmp_isNaN_int64 at hm
  refine enterE (N := 6) Try.func162 (by rfl) Try.ntmps162 (by simp) [(0, .int .i64 (p0))] (by rfl) (by kernel_rfl) (fun a => ?_)
  refine cW_seq ?_
  refine cW_region ?_
  refine wS_pure 1 [(2, .bool (false))] (by kernel_rfl) ?_
  refine wS_end (by rfl) ?_
  refine eX_then ?_
  refine cW_seq ?_
  refine cW_region ?_
  refine wS_pure 4 [(2, .bool (p0 != p0)), (5, .bool (p0 != p0)), (4, .int .i64 (p0)), (3, .int .i64 (p0))] (by kernel_rfl) ?_
  refine wS_end (by rfl) ?_
  refine eX_then ?_
  refine cW_ret ?_
  have hq : (some (p0 != p0) : Option ((Bool))) = some _ := hm
  replace hq := someE hq
  subst hq
  refine eX_ret (vs := [.bool (p0 != p0)]) [.tmp 2] (by rfl) ⟨by (show lkE _ _ _ = _); kernel_rfl, trivial⟩ ?_
  exact ⟨rfl, hB⟩

set_option maxRecDepth 100000 in
/-- cmp.Compare[int64] -/
theorem c_cmp_Compare_int64 {w0 : World} {p0 : Int} {p1 : Int} {r : (Int)} (hm : m_cmp_Compare_int64 p0 p1 = some r)  :
    Calls Try.prog 152 #[.int .i64 (p0), .int .i64 (p1)] w0 fun e w' => e = .returned (.int .i64 (r)) ∧ Chg [] w0 w' := by
  have hB : Chg [] w0 w0 := Chg.refl _ _
  have hZ := Nat.le_refl w0.heap.size
  unfold m_cmp_Compare_int64 at hm
  refine enterE (N := 20) Try.func152 (by rfl) Try.ntmps152 (by simp) [(0, .int .i64 (p0)), (1, .int .i64 (p1))] (by rfl) (by kernel_rfl) (fun a => ?_)
  refine cW_seq ?_
  refine cW_region ?_
  refine wS_pure 1 [(4, .int .i64 (0))] (by kernel_rfl) ?_
  refine wS_end (by rfl) ?_
  refine eX_then ?_
  refine cW_seq ?_
  refine cW_region ?_
  refine wS_pure 1 [(7, .int .i64 (p0))] (by kernel_rfl) ?_
  obtain ⟨y1, hy2, hm⟩ := bindE hm
  refine wS_calls (d := 8) (f := 162) (vs := [.int .i64 (p0)]) (by kernel_rfl) ent162 (c_cmp_isNaN_int64 hy2) ?_
  rintro _ w3 ⟨rfl, hc4⟩
  replace hB := hB.inS hc4 inNil
  replace hZ := Nat.le_trans hZ hc4.size
  refine ⟨.bool (y1), rfl, ?_⟩
  refine wS_pure 1 [(5, .bool (y1))] (by kernel_rfl) ?_
  refine wS_end (by rfl) ?_
  refine eX_then ?_
  refine cW_seq ?_
  refine cW_region ?_
  refine wS_pure 1 [(9, .int .i64 (p1))] (by kernel_rfl) ?_
  obtain ⟨y5, hy6, hm⟩ := bindE hm
  refine wS_calls (d := 10) (f := 162) (vs := [.int .i64 (p1)]) (by kernel_rfl) ent162 (c_cmp_isNaN_int64 hy6) ?_
  rintro _ w7 ⟨rfl, hc8⟩
  replace hB := hB.inS hc8 inNil
  replace hZ := Nat.le_trans hZ hc8.size
  refine ⟨.bool (y5), rfl, ?_⟩
  refine wS_pure 1 [(6, .bool (y5))] (by kernel_rfl) ?_
  refine wS_end (by rfl) ?_
  refine eX_then ?_
  refine cW_seq ?_
  refine cW_seq ?_
  refine cW_region ?_
  refine wS_pure 1 [(11, .bool (y1))] (by kernel_rfl) ?_
  refine wS_end (by rfl) ?_
  refine eX_then ?_
  refine cW_cond (t := y1) (by kernel_rfl) (fun hb9 => ?_) (fun hb9 => ?_)
  · have hm := condT hb9 hm
    refine cW_seq ?_
    refine cW_seq ?_
    refine cW_region ?_
    refine wS_pure 1 [(12, .bool (y5))] (by kernel_rfl) ?_
    refine wS_end (by rfl) ?_
    refine eX_then ?_
    refine cW_cond (t := y5) (by kernel_rfl) (fun hb10 => ?_) (fun hb10 => ?_)
    · have hm := condT hb10 hm
      refine cW_seq ?_
      refine cW_region ?_
      refine wS_pure 1 [(4, .int .i64 (0))] (by kernel_rfl) ?_
      refine wS_end (by rfl) ?_
      refine eX_then ?_
      refine cW_ret ?_
      refine eX_then_ret ?_
      refine eX_then_ret ?_
      have hq : (some 0 : Option ((Int))) = some _ := hm
      replace hq := someE hq
      subst hq
      refine eX_ret (vs := [.int .i64 (0)]) [.tmp 4] (by rfl) ⟨by (show lkE _ _ _ = _); kernel_rfl, trivial⟩ ?_
      exact ⟨rfl, hB⟩
    · have hm := condF hb10 hm
      refine cW_skip ?_
      refine eX_then ?_
      refine cW_seq ?_
      refine cW_region ?_
      refine wS_pure 1 [(4, .int .i64 ((-1)))] (by kernel_rfl) ?_
      refine wS_end (by rfl) ?_
      refine eX_then ?_
      refine cW_ret ?_
      refine eX_then_ret ?_
      have hq : (some ((-1)) : Option ((Int))) = some _ := hm
      replace hq := someE hq
      subst hq
      refine eX_ret (vs := [.int .i64 ((-1))]) [.tmp 4] (by rfl) ⟨by (show lkE _ _ _ = _); kernel_rfl, trivial⟩ ?_
      exact ⟨rfl, hB⟩
  · have hm := condF hb9 hm
    refine cW_skip ?_
    refine eX_then ?_
    refine cW_seq ?_
    refine cW_seq ?_
    refine cW_region ?_
    refine wS_pure 1 [(13, .bool (y5))] (by kernel_rfl) ?_
    refine wS_end (by rfl) ?_
    refine eX_then ?_
    refine cW_cond (t := y5) (by kernel_rfl) (fun hb11 => ?_) (fun hb11 => ?_)
    · have hm := condT hb11 hm
      refine cW_seq ?_
      refine cW_region ?_
      refine wS_pure 1 [(4, .int .i64 (1))] (by kernel_rfl) ?_
      refine wS_end (by rfl) ?_
      refine eX_then ?_
      refine cW_ret ?_
      refine eX_then_ret ?_
      have hq : (some 1 : Option ((Int))) = some _ := hm
      replace hq := someE hq
      subst hq
      refine eX_ret (vs := [.int .i64 (1)]) [.tmp 4] (by rfl) ⟨by (show lkE _ _ _ = _); kernel_rfl, trivial⟩ ?_
      exact ⟨rfl, hB⟩
    · have hm := condF hb11 hm
      refine cW_skip ?_
      refine eX_then ?_
      refine cW_seq ?_
      refine cW_seq ?_
      refine cW_region ?_
      refine wS_pure 3 [(16, .bool (decide (p0 < p1))), (15, .int .i64 (p1)), (14, .int .i64 (p0))] (by kernel_rfl) ?_
      refine wS_end (by rfl) ?_
      refine eX_then ?_
      refine cW_cond (t := decide (p0 < p1)) (by kernel_rfl) (fun hb12 => ?_) (fun hb12 => ?_)
      · have hm := condT hb12 hm
        refine cW_seq ?_
        refine cW_region ?_
        refine wS_pure 1 [(4, .int .i64 ((-1)))] (by kernel_rfl) ?_
        refine wS_end (by rfl) ?_
        refine eX_then ?_
        refine cW_ret ?_
        refine eX_then_ret ?_
        have hq : (some ((-1)) : Option ((Int))) = some _ := hm
        replace hq := someE hq
        subst hq
        refine eX_ret (vs := [.int .i64 ((-1))]) [.tmp 4] (by rfl) ⟨by (show lkE _ _ _ = _); kernel_rfl, trivial⟩ ?_
        exact ⟨rfl, hB⟩
      · have hm := condF hb12 hm
        refine cW_skip ?_
        refine eX_then ?_
        refine cW_seq ?_
        refine cW_seq ?_
        refine cW_region ?_
        refine wS_pure 3 [(19, .bool (decide (p0 > p1))), (18, .int .i64 (p1)), (17, .int .i64 (p0))] (by kernel_rfl) ?_
        refine wS_end (by rfl) ?_
        refine eX_then ?_
        refine cW_cond (t := decide (p0 > p1)) (by kernel_rfl) (fun hb13 => ?_) (fun hb13 => ?_)
        · have hm := condT hb13 hm
          refine cW_seq ?_
          refine cW_region ?_
          refine wS_pure 1 [(4, .int .i64 (1))] (by kernel_rfl) ?_
          refine wS_end (by rfl) ?_
          refine eX_then ?_
          refine cW_ret ?_
          refine eX_then_ret ?_
          have hq : (some 1 : Option ((Int))) = some _ := hm
          replace hq := someE hq
          subst hq
          refine eX_ret (vs := [.int .i64 (1)]) [.tmp 4] (by rfl) ⟨by (show lkE _ _ _ = _); kernel_rfl, trivial⟩ ?_
          exact ⟨rfl, hB⟩
        · have hm := condF hb13 hm
          refine cW_skip ?_
          refine eX_then ?_
          refine cW_seq ?_
          refine cW_region ?_
          refine wS_pure 1 [(4, .int .i64 (0))] (by kernel_rfl) ?_
          refine wS_end (by rfl) ?_
          refine eX_then ?_
          refine cW_ret ?_
          have hq : (some 0 : Option ((Int))) = some _ := hm
          replace hq := someE hq
          subst hq
          refine eX_ret (vs := [.int .i64 (0)]) [.tmp 4] (by rfl) ⟨by (show lkE _ _ _ = _); kernel_rfl, trivial⟩ ?_
          exact ⟨rfl, hB⟩

set_option maxRecDepth 100000 in
/-- slices.Compare[[]int64,int64] -/
theorem c_slices_Compare_int64_int64 {w0 : World} {l0 : List (Int)} {A0 : Option Addr} {cap0 : Nat} {fp0 : List Nat} {l1 : List (Int)} {A1 : Option Addr} {cap1 : Nat} {fp1 : List Nat} {r : (Int)} (hm : m_slices_Compare_int64_int64 l0 l1 = some r) (F0 : Sl 1 encI w0 fp0 A0 l0) (F1 : Sl 1 encI w0 fp1 A1 l1) :
    Calls Try.prog 124 #[.slice A0 (l0).length cap0, .slice A1 (l1).length cap1] w0 fun e w' => e = .returned (.int .i64 (r)) ∧ Chg [] w0 w' := by
  have L0 := F0.low
  have L1 := F1.low
  have hB : Chg [] w0 w0 := Chg.refl _ _
  have hZ := Nat.le_refl w0.heap.size
  unfold m_slices_Compare_int64_int64 at hm
  refine enterE (N := 36) Try.func124 (by rfl) Try.ntmps124 (by simp) [(0, .slice A0 (l0).length cap0), (1, .slice A1 (l1).length cap1)] (by rfl) (by kernel_rfl) (fun a => ?_)
  refine cW_seq ?_
  refine cW_region ?_
  refine wS_pure 1 [(4, .int .i64 (0))] (by kernel_rfl) ?_
  refine wS_end (by rfl) ?_
  refine eX_then ?_
  refine cW_seq ?_
  refine cW_seq ?_
  refine cW_region ?_
  refine wS_pure 3 [(11, .int .i64 (0)), (10, .int .i64 (((l0).length : Int))), (9, .slice A0 (l0).length cap0)] (by kernel_rfl) ?_
  refine wS_end (by rfl) ?_
  refine eX_then ?_
  obtain ⟨r43, hr44, hm⟩ := bindE hm
  have hm45 := hm
  refine cW_cut (fun a' w' => Sum.inl (()) = r43 ∧ Fr 36 [(0, .slice A0 (l0).length cap0), (1, .slice A1 (l1).length cap1)] a' ∧ Sl 1 encI w' fp0 A0 l0 ∧ Sl 1 encI w' fp1 A1 l1 ∧ Chg [] w0 w' ∧ w0.heap.size ≤ w'.heap.size) ?_ ?_
  · refine cW_block ?_
    refine cW_loop _ (fun (s46 : Int) a' w' => ∃ x39 : Int, x39 = s46 ∧ Fr 36 [(0, .slice A0 (l0).length cap0), (1, .slice A1 (l1).length cap1), (9, .slice A0 (l0).length cap0), (10, .int .i64 (((l0).length : Int))), (11, .int .i64 (x39))] a' ∧ Sl 1 encI w' fp0 A0 l0 ∧ Sl 1 encI w' fp1 A1 l1 ∧ Chg [] w0 w' ∧ w0.heap.size ≤ w'.heap.size) hr44 (fun hst => ⟨0, rfl, Fr.of hst (by kernel_rfl), F0, F1, hB, hZ⟩) ?_
    rintro _ c47 a' w38 ⟨x39, rfl, hF40, F41, F42, hB, hZ⟩ hx48
    refine Fr.goOn hF40 (by kernel_rfl) ?_
    have hm := hx48
    unfold m_slices_Compare_int64_int64_s1 at hm
    refine cW_seq ?_
    refine cW_region ?_
    refine wS_pure 1 [(12, .bool (decide (x39 < (((l0).length : Int)))))] (by kernel_rfl) ?_
    refine wS_end (by rfl) ?_
    refine eX_then ?_
    refine cW_seq ?_
    refine cW_cond (t := decide (x39 < (((l0).length : Int)))) (by kernel_rfl) (fun hb49 => ?_) (fun hb49 => ?_)
    · have hm := condT hb49 hm
      refine cW_skip ?_
      refine eX_then ?_
      refine cW_seq ?_
      refine cW_block ?_
      refine cW_seq ?_
      refine cW_region ?_
      refine wS_pure 1 [(13, .int .i64 (x39))] (by kernel_rfl) ?_
      obtain ⟨x50, hx51, hm⟩ := bindE hm
      refine wS_idx (d := 14) (T := 38) (A := A0) (n := (l0).length) (cap := cap0) (kd := .i64) (m := x39) (by kernel_rfl) sl38 (F41.is hx51) ?_
      refine wS_load1 (d := 15) (T := 2) (ad := (elA A0 1 (x39) 0)) (v := .int .i64 (x50)) (by kernel_rfl) vt2 (Sl.cell F41 hx51 0 (by rfl)) ?_
      refine wS_pure 2 [(6, .int .i64 (x50)), (5, .int .i64 (x39))] (by kernel_rfl) ?_
      refine wS_end (by rfl) ?_
      refine eX_then ?_
      refine cW_seq ?_
      refine cW_seq ?_
      refine cW_region ?_
      refine wS_pure 4 [(19, .bool (decide (x39 ≥ (((l1).length : Int))))), (18, .int .i64 (((l1).length : Int))), (17, .slice A1 (l1).length cap1), (16, .int .i64 (x39))] (by kernel_rfl) ?_
      refine wS_end (by rfl) ?_
      refine eX_then ?_
      refine cW_cond (t := decide (x39 ≥ (((l1).length : Int)))) (by kernel_rfl) (fun hb52 => ?_) (fun hb52 => ?_)
      · have hm := condT hb52 hm
        refine cW_seq ?_
        refine cW_region ?_
        refine wS_pure 1 [(4, .int .i64 (1))] (by kernel_rfl) ?_
        refine wS_end (by rfl) ?_
        refine eX_then ?_
        refine cW_ret ?_
        refine eX_then_ret ?_
        refine eX_block_ret ?_
        refine eX_then_ret ?_
        have hq : (some (Ctl.out (Sum.inr 1)) : Option (Ctl (Int) (Sum (Unit) ((Int))))) = some _ := hm
        replace hq := someE hq
        subst hq
        refine eX_outR hx48 (fun hr => ?_)
        subst hr
        refine eX_block_ret ?_
        refine eX_then_ret ?_
        refine eX_then_ret ?_
        have hq : (some 1 : Option ((Int))) = some _ := hm45
        replace hq := someE hq
        subst hq
        refine eX_ret (vs := [.int .i64 (1)]) [.tmp 4] (by rfl) ⟨by (show lkE _ _ _ = _); kernel_rfl, trivial⟩ ?_
        exact ⟨rfl, hB⟩
      · have hm := condF hb52 hm
        refine cW_skip ?_
        refine eX_then ?_
        refine cW_seq ?_
        refine cW_region ?_
        refine wS_pure 2 [(21, .int .i64 (x39)), (20, .slice A1 (l1).length cap1)] (by kernel_rfl) ?_
        obtain ⟨x53, hx54, hm⟩ := bindE hm
        refine wS_idx (d := 22) (T := 38) (A := A1) (n := (l1).length) (cap := cap1) (kd := .i64) (m := x39) (by kernel_rfl) sl38 (F42.is hx54) ?_
        refine wS_load1 (d := 23) (T := 2) (ad := (elA A1 1 (x39) 0)) (v := .int .i64 (x53)) (by kernel_rfl) vt2 (Sl.cell F42 hx54 0 (by rfl)) ?_
        refine wS_pure 1 [(7, .int .i64 (x53))] (by kernel_rfl) ?_
        refine wS_end (by rfl) ?_
        refine eX_then ?_
        refine cW_seq ?_
        refine cW_region ?_
        refine wS_pure 2 [(25, .int .i64 (x53)), (24, .int .i64 (x50))] (by kernel_rfl) ?_
        obtain ⟨y55, hy56, hm⟩ := bindE hm
        refine wS_calls (d := 26) (f := 152) (vs := [.int .i64 (x50), .int .i64 (x53)]) (by kernel_rfl) ent152 (c_cmp_Compare_int64 hy56) ?_
        rintro _ w57 ⟨rfl, hc58⟩
        replace F41 := F41.chg hc58 Dj.nil
        replace F42 := F42.chg hc58 Dj.nil
        replace hB := hB.inS hc58 inNil
        replace hZ := Nat.le_trans hZ hc58.size
        refine ⟨.int .i64 (y55), rfl, ?_⟩
        refine wS_pure 1 [(8, .int .i64 (y55))] (by kernel_rfl) ?_
        refine wS_end (by rfl) ?_
        refine eX_then ?_
        refine cW_prune [(0, .slice A0 (l0).length cap0), (1, .slice A1 (l1).length cap1), (8, .int .i64 (y55)), (9, .slice A0 (l0).length cap0), (10, .int .i64 (((l0).length : Int))), (11, .int .i64 (x39))] (by kernel_rfl) (by kernel_rfl) (fun a59 => ?_)
        refine cW_seq ?_
        refine cW_region ?_
        refine wS_pure 2 [(28, .bool (y55 != 0)), (27, .int .i64 (y55))] (by kernel_rfl) ?_
        refine wS_end (by rfl) ?_
        refine eX_then ?_
        refine cW_cond (t := y55 != 0) (by kernel_rfl) (fun hb60 => ?_) (fun hb60 => ?_)
        · have hm := condT hb60 hm
          refine cW_seq ?_
          refine cW_region ?_
          refine wS_pure 2 [(4, .int .i64 (y55)), (29, .int .i64 (y55))] (by kernel_rfl) ?_
          refine wS_end (by rfl) ?_
          refine eX_then ?_
          refine cW_ret ?_
          refine eX_block_ret ?_
          refine eX_then_ret ?_
          have hq : (some (Ctl.out (Sum.inr y55)) : Option (Ctl (Int) (Sum (Unit) ((Int))))) = some _ := hm
          replace hq := someE hq
          subst hq
          refine eX_outR hx48 (fun hr => ?_)
          subst hr
          refine eX_block_ret ?_
          refine eX_then_ret ?_
          refine eX_then_ret ?_
          have hq : (some y55 : Option ((Int))) = some _ := hm45
          replace hq := someE hq
          subst hq
          refine eX_ret (vs := [.int .i64 (y55)]) [.tmp 4] (by rfl) ⟨by (show lkE _ _ _ = _); kernel_rfl, trivial⟩ ?_
          exact ⟨rfl, hB⟩
        · have hm := condF hb60 hm
          refine cW_skip ?_
          refine eX_block ?_
          refine eX_then ?_
          refine cW_region ?_
          refine wS_pure 2 [(11, .int .i64 (wr (x39 + 1))), (30, .int .i64 (wr (x39 + 1)))] (by kernel_rfl) ?_
          refine wS_end (by rfl) ?_
          have hq : (some (Ctl.next (wr (x39 + 1))) : Option (Ctl (Int) (Sum (Unit) ((Int))))) = some _ := hm
          replace hq := someE hq
          subst hq
          exact eX_next hx48 (fun hst => ⟨wr (x39 + 1), rfl, Fr.of hst (by kernel_rfl), F41, F42, hB, hZ⟩)
    · have hm := condF hb49 hm
      refine cW_exit ?_
      refine eX_then_exit ?_
      have hq : (some (Ctl.out (Sum.inl (()))) : Option (Ctl (Int) (Sum (Unit) ((Int))))) = some _ := hm
      replace hq := someE hq
      subst hq
      refine eX_outX hx48 (fun hr61 => ?_)
      replace hr61 := hr61.symm
      subst hr61
      refine eX_block_hit ?_
      exact eX_J (fun hst => ⟨rfl, Fr.of hst (by kernel_rfl), F41, F42, hB, hZ⟩)
  · rintro a' w34 ⟨hJ, hF35, F36, F37, hB, hZ⟩
    subst hJ
    refine Fr.goX hF35 (by kernel_rfl) ?_
    refine eX_then ?_
    refine cW_seq ?_
    refine cW_seq ?_
    refine cW_region ?_
    refine wS_pure 5 [(35, .bool (decide ((((l0).length : Int)) < (((l1).length : Int))))), (34, .int .i64 (((l1).length : Int))), (33, .slice A1 (l1).length cap1), (32, .int .i64 (((l0).length : Int))), (31, .slice A0 (l0).length cap0)] (by kernel_rfl) ?_
    refine wS_end (by rfl) ?_
    refine eX_then ?_
    refine cW_cond (t := decide ((((l0).length : Int)) < (((l1).length : Int)))) (by kernel_rfl) (fun hb62 => ?_) (fun hb62 => ?_)
    · have hm := condT hb62 hm
      refine cW_seq ?_
      refine cW_region ?_
      refine wS_pure 1 [(4, .int .i64 ((-1)))] (by kernel_rfl) ?_
      refine wS_end (by rfl) ?_
      refine eX_then ?_
      refine cW_ret ?_
      refine eX_then_ret ?_
      have hq : (some ((-1)) : Option ((Int))) = some _ := hm
      replace hq := someE hq
      subst hq
      refine eX_ret (vs := [.int .i64 ((-1))]) [.tmp 4] (by rfl) ⟨by (show lkE _ _ _ = _); kernel_rfl, trivial⟩ ?_
      exact ⟨rfl, hB⟩
    · have hm := condF hb62 hm
      refine cW_skip ?_
      refine eX_then ?_
      refine cW_seq ?_
      refine cW_region ?_
      refine wS_pure 1 [(4, .int .i64 (0))] (by kernel_rfl) ?_
      refine wS_end (by rfl) ?_
      refine eX_then ?_
      refine cW_ret ?_
      have hq : (some 0 : Option ((Int))) = some _ := hm
      replace hq := someE hq
      subst hq
      refine eX_ret (vs := [.int .i64 (0)]) [.tmp 4] (by rfl) ⟨by (show lkE _ _ _ = _); kernel_rfl, trivial⟩ ?_
      exact ⟨rfl, hB⟩

set_option maxRecDepth 100000 in
/-- impl.ValidWiring$1 -/
theorem c_impl_ValidWiring_1 {w0 : World} {l0 : List (Int)} {A0 : Option Addr} {cap0 : Nat} {fp0 : List Nat} {r : (Bool)} (hm : m_impl_ValidWiring_1 l0 = some r) (F0 : Sl 1 encI w0 fp0 A0 l0) :
    Calls Try.prog 86 #[.slice A0 (l0).length cap0] w0 fun e w' => e = .returned (.bool (r)) ∧ Chg [] w0 w' := by
  have L0 := F0.low
  have hB : Chg [] w0 w0 := Chg.refl _ _
  have hZ := Nat.le_refl w0.heap.size
  unfold m_impl_ValidWiring_1 at hm
  refine enterE (N := 8) Try.func86 (by rfl) Try.ntmps86 (by simp) [(0, .slice A0 (l0).length cap0)] (by rfl) (by kernel_rfl) (fun a => ?_)
  refine cW_seq ?_
  refine cW_region ?_
  refine wS_pure 1 [(2, .bool (false))] (by kernel_rfl) ?_
  refine wS_end (by rfl) ?_
  refine eX_then ?_
  refine cW_seq ?_
  refine cW_region ?_
  refine wS_pure 1 [(3, .slice A0 (l0).length cap0)] (by kernel_rfl) ?_
  obtain ⟨x2, hx3, hm⟩ := bindE hm
  refine wS_idx (d := 4) (T := 38) (A := A0) (n := (l0).length) (cap := cap0) (kd := .i64) (m := 2) (by kernel_rfl) sl38 (F0.is hx3) ?_
  refine wS_load1 (d := 5) (T := 2) (ad := (elA A0 1 (2) 0)) (v := .int .i64 (x2)) (by kernel_rfl) vt2 (Sl.cell F0 hx3 0 (by rfl)) ?_
  obtain ⟨y4, hy5, hm⟩ := bindE hm
  refine wS_calls (d := 6) (f := 77) (vs := [.int .i64 (x2), .int .i64 (0), .int .i64 (1000)]) (by kernel_rfl) ent77 (c_impl_in hy5) ?_
  rintro _ w6 ⟨rfl, hc7⟩
  replace F0 := F0.chg hc7 Dj.nil
  replace hB := hB.inS hc7 inNil
  replace hZ := Nat.le_trans hZ hc7.size
  refine ⟨.bool (y4), rfl, ?_⟩
  refine wS_pure 2 [(2, .bool (!y4)), (7, .bool (!y4))] (by kernel_rfl) ?_
  refine wS_end (by rfl) ?_
  refine eX_then ?_
  refine cW_ret ?_
  have hq : (some (!y4) : Option ((Bool))) = some _ := hm
  replace hq := someE hq
  subst hq
  refine eX_ret (vs := [.bool (!y4)]) [.tmp 2] (by rfl) ⟨by (show lkE _ _ _ = _); kernel_rfl, trivial⟩ ?_
  exact ⟨rfl, hB⟩

set_option maxRecDepth 100000 in
/-- impl.ValidWiring$2 -/
theorem c_impl_ValidWiring_2 {w0 : World} {p0 : Int} {r : (Bool)} (hm : m_impl_ValidWiring_2 p0 = some r)  :
    Calls Try.prog 88 #[.int .i64 (p0)] w0 fun e w' => e = .returned (.bool (r)) ∧ Chg [] w0 w' := by
  have hB : Chg [] w0 w0 := Chg.refl _ _
  have hZ := Nat.le_refl w0.heap.size
  unfold m_impl_ValidWiring_2 at hm
  refine enterE (N := 6) Try.func88 (by rfl) Try.ntmps88 (by simp) [(0, .int .i64 (p0))] (by rfl) (by kernel_rfl) (fun a => ?_)
  refine cW_seq ?_
  refine cW_region ?_
  refine wS_pure 1 [(2, .bool (false))] (by kernel_rfl) ?_
  refine wS_end (by rfl) ?_
  refine eX_then ?_
  refine cW_seq ?_
  refine cW_region ?_
  refine wS_pure 1 [(3, .int .i64 (p0))] (by kernel_rfl) ?_
  obtain ⟨y1, hy2, hm⟩ := bindE hm
  refine wS_calls (d := 4) (f := 77) (vs := [.int .i64 (p0), .int .i64 ((-1)), .int .i64 (1)]) (by kernel_rfl) ent77 (c_impl_in hy2) ?_
  rintro _ w3 ⟨rfl, hc4⟩
  replace hB := hB.inS hc4 inNil
  replace hZ := Nat.le_trans hZ hc4.size
  refine ⟨.bool (y1), rfl, ?_⟩
  refine wS_pure 2 [(2, .bool (!y1)), (5, .bool (!y1))] (by kernel_rfl) ?_
  refine wS_end (by rfl) ?_
  refine eX_then ?_
  refine cW_ret ?_
  have hq : (some (!y1) : Option ((Bool))) = some _ := hm
  replace hq := someE hq
  subst hq
  refine eX_ret (vs := [.bool (!y1)]) [.tmp 2] (by rfl) ⟨by (show lkE _ _ _ = _); kernel_rfl, trivial⟩ ?_
  exact ⟨rfl, hB⟩

set_option maxRecDepth 100000 in
/-- impl.Wiring).pairsOk -/
theorem c_impl_Wiring_pairsOk_bimplWiring {w0 : World} {q0_0 : Int} {l0_1 : List (List (Int))} {A0_1 : Option Addr} {cap0_1 : Nat} {fp0_1 : List Nat} {l0_2 : List (List (Int))} {A0_2 : Option Addr} {cap0_2 : Nat} {fp0_2 : List Nat} {l0_3 : List (Int)} {A0_3 : Option Addr} {cap0_3 : Nat} {fp0_3 : List Nat} {b0 : Nat} {l1 : List (List (Int))} {A1 : Option Addr} {cap1 : Nat} {fp1 : List Nat} {p2 : Int} {r : (Bool)} (hm : m_impl_Wiring_pairsOk_bimplWiring q0_0 l0_1 l0_2 l0_3 l1 p2 = some r) (F0_1 : SlR 1 encI w0 fp0_1 A0_1 l0_1) (F0_2 : SlR 1 encI w0 fp0_2 A0_2 l0_2) (F0_3 : Sl 1 encI w0 fp0_3 A0_3 l0_3) (F0 : Cl w0 b0 43 [.int .i64 (q0_0), .slice A0_1 (l0_1).length cap0_1, .slice A0_2 (l0_2).length cap0_2, .slice A0_3 (l0_3).length cap0_3]) (F1 : SlR 1 encI w0 fp1 A1 l1) :
    Calls Try.prog 84 #[.pointer (some ⟨b0, 0, none⟩), .slice A1 (l1).length cap1, .int .i64 (p2)] w0 fun e w' => e = .returned (.bool (r)) ∧ Chg [] w0 w' := by
  have L0_1 := F0_1.low
  have L0_2 := F0_2.low
  have L0_3 := F0_3.low
  have L0 := lt1 F0.lt
  have L1 := F1.low
  have hB : Chg [] w0 w0 := Chg.refl _ _
  have hZ := Nat.le_refl w0.heap.size
  unfold m_impl_Wiring_pairsOk_bimplWiring at hm
  refine enterE (N := 63) Try.func84 (by rfl) Try.ntmps84 (by simp) [(0, .pointer (some ⟨b0, 0, none⟩)), (1, .slice A1 (l1).length cap1), (2, .int .i64 (p2))] (by rfl) (by kernel_rfl) (fun a => ?_)
  refine cW_seq ?_
  refine cW_region ?_
  refine wS_pure 1 [(6, .bool (false))] (by kernel_rfl) ?_
  refine wS_end (by rfl) ?_
  refine eX_then ?_
  refine cW_seq ?_
  refine cW_seq ?_
  refine cW_region ?_
  refine wS_pure 3 [(11, .int .i64 (0)), (10, .int .i64 (((l1).length : Int))), (9, .slice A1 (l1).length cap1)] (by kernel_rfl) ?_
  refine wS_end (by rfl) ?_
  refine eX_then ?_
  obtain ⟨r194, hr195, hm⟩ := bindE hm
  have hm196 := hm
  refine cW_cut (fun a' w' => Sum.inl (()) = r194 ∧ Fr 63 [(1, .slice A1 (l1).length cap1)] a' ∧ SlR 1 encI w' fp1 A1 l1 ∧ Chg [] w0 w' ∧ w0.heap.size ≤ w'.heap.size) ?_ ?_
  · refine cW_block ?_
    refine cW_loop _ (fun (s197 : Int) a' w' => ∃ x187 : Int, x187 = s197 ∧ Fr 63 [(0, .pointer (some ⟨b0, 0, none⟩)), (1, .slice A1 (l1).length cap1), (2, .int .i64 (p2)), (9, .slice A1 (l1).length cap1), (10, .int .i64 (((l1).length : Int))), (11, .int .i64 (x187))] a' ∧ SlR 1 encI w' fp0_1 A0_1 l0_1 ∧ SlR 1 encI w' fp0_2 A0_2 l0_2 ∧ Sl 1 encI w' fp0_3 A0_3 l0_3 ∧ Cl w' b0 43 [.int .i64 (q0_0), .slice A0_1 (l0_1).length cap0_1, .slice A0_2 (l0_2).length cap0_2, .slice A0_3 (l0_3).length cap0_3] ∧ SlR 1 encI w' fp1 A1 l1 ∧ Chg [] w0 w' ∧ w0.heap.size ≤ w'.heap.size) hr195 (fun hst => ⟨0, rfl, Fr.of hst (by kernel_rfl), F0_1, F0_2, F0_3, F0, F1, hB, hZ⟩) ?_
    rintro _ c198 a' w186 ⟨x187, rfl, hF188, F189, F190, F191, F192, F193, hB, hZ⟩ hx199
    refine Fr.goOn hF188 (by kernel_rfl) ?_
    have hm := hx199
    unfold m_impl_Wiring_pairsOk_bimplWiring_s1 at hm
    refine cW_seq ?_
    refine cW_region ?_
    refine wS_pure 1 [(12, .bool (decide (x187 < (((l1).length : Int)))))] (by kernel_rfl) ?_
    refine wS_end (by rfl) ?_
    refine eX_then ?_
    refine cW_seq ?_
    refine cW_cond (t := decide (x187 < (((l1).length : Int)))) (by kernel_rfl) (fun hb200 => ?_) (fun hb200 => ?_)
    · have hm := condT hb200 hm
      refine cW_skip ?_
      refine eX_then ?_
      refine cW_seq ?_
      refine cW_block ?_
      refine cW_seq ?_
      refine cW_region ?_
      refine wS_pure 1 [(13, .int .i64 (x187))] (by kernel_rfl) ?_
      obtain ⟨x201, hx202, hm⟩ := bindE hm
      refine wS_idx (d := 14) (T := 37) (A := A1) (n := (l1).length) (cap := cap1) (kd := .i64) (m := x187) (by kernel_rfl) sl37 (F193.is hx202) ?_
      obtain ⟨A203, cap204, hc206, F205, K207⟩ := SlR.row F193 hx202
      refine wS_load1 (d := 15) (T := 38) (ad := (elA A1 1 (x187) 0)) (v := .slice A203 (x201).length cap204) (by kernel_rfl) vt38 hc206 ?_
      refine wS_pure 2 [(8, .slice A203 (x201).length cap204), (7, .int .i64 (x187))] (by kernel_rfl) ?_
      refine wS_end (by rfl) ?_
      refine eX_then ?_
      refine cW_seq ?_
      refine cW_drawnTail [] 39 (by kernel_rfl) (by kernel_rfl) (fun w242 hc243 => ?_)
      replace F189 := F189.chg hc243 Dj.nil
      replace F190 := F190.chg hc243 Dj.nil
      replace F191 := F191.chg hc243 Dj.nil
      replace F192 := F192.chg hc243 notNil
      replace F193 := F193.chg hc243 Dj.nil
      replace F205 := F205.chg hc243 Dj.nil
      replace hB := hB.inS hc243 inNil
      replace hZ := Nat.le_trans hZ hc243.size
      have hS := Chg.refl [] w242
      have Z244 := F189
      have Z245 := F190
      have Z246 := F191
      have Z247 := F192
      have Z248 := F193
      have Z249 := F205
      refine wH_take [0, 1, 2, 3, 4] [4, 3, 2, 1, 0] [(20, .bool ((((x201).length : Int)) != p2)), (19, .bool ((((x201).length : Int)) != p2)), (18, .int .i64 (p2)), (17, .int .i64 (((x201).length : Int))), (16, .slice A203 (x201).length cap204)] (by kernel_rfl) (qT (qT (qB (qT (qL (qB (qT (qT qZ)))))))) (by kernel_rfl) ?_
      refine wH_bool ((((x201).length : Int)) != p2) (fun hb250 => ?_) (fun hb250 => ?_)
      · have hm := condT hb250 hm
        rewrite [hb250]
        refine wH_take [5, 6, 7, 8, 9, 10, 11, 12, 13, 14, 15, 16, 17, 18, 19, 20, 21, 22, 23, 24, 25, 26, 27, 28, 29, 30, 31, 32, 33, 34, 35, 36, 37, 38] [38, 37, 36, 35, 34, 33, 32, 31, 30, 29, 28, 27, 26, 25, 24, 23, 22, 21, 20, 19, 18, 17, 16, 15, 14, 13, 12, 11, 10, 9, 8, 7, 6, 5, 4, 3, 2, 1, 0] [(54, undef), (53, undef), (52, undef), (51, undef), (50, undef), (49, undef), (48, undef), (47, undef), (46, undef), (45, .bool (true)), (44, .bool (true)), (43, undef), (42, undef), (41, undef), (40, undef), (39, undef), (38, undef), (37, undef), (36, undef), (35, .bool (true)), (34, .bool (true)), (33, undef), (32, undef), (31, undef), (30, undef), (29, undef), (28, undef), (27, undef), (26, .bool (true)), (25, .bool (true)), (24, undef), (23, undef), (22, undef), (21, undef)] (by kernel_rfl) (qT (qT (qB (qT (qL (qB (qT (qT qZ)))))))) (by kernel_rfl) ?_
        refine wH_done (by kernel_rfl) ?_
        refine eX_tail ?_
        refine wS_pure 4 [(58, .bool (true)), (57, undef), (56, undef), (55, undef)] (by kernel_rfl) ?_
        refine wS_end (by rfl) ?_
        refine eX_then ?_
        refine cW_prune [(0, .pointer (some ⟨b0, 0, none⟩)), (1, .slice A1 (l1).length cap1), (2, .int .i64 (p2)), (9, .slice A1 (l1).length cap1), (10, .int .i64 (((l1).length : Int))), (11, .int .i64 (x187)), (58, .bool (true))] (by kernel_rfl) (by kernel_rfl) (fun a251 => ?_)
        refine cW_cond_t (by kernel_rfl) ?_
        refine cW_seq ?_
        refine cW_region ?_
        refine wS_pure 1 [(6, .bool (false))] (by kernel_rfl) ?_
        refine wS_end (by rfl) ?_
        refine eX_then ?_
        refine cW_ret ?_
        refine eX_block_ret ?_
        refine eX_then_ret ?_
        have hq : (some (Ctl.out (Sum.inr false)) : Option (Ctl (Int) (Sum (Unit) ((Bool))))) = some _ := hm
        replace hq := someE hq
        subst hq
        refine eX_outR hx199 (fun hr => ?_)
        subst hr
        refine eX_block_ret ?_
        refine eX_then_ret ?_
        refine eX_then_ret ?_
        have hq : (some false : Option ((Bool))) = some _ := hm196
        replace hq := someE hq
        subst hq
        refine eX_ret (vs := [.bool (false)]) [.tmp 6] (by rfl) ⟨by (show lkE _ _ _ = _); kernel_rfl, trivial⟩ ?_
        exact ⟨rfl, hB⟩
      · have hm := condF hb250 hm
        rewrite [hb250]
        refine wH_take [5] [5, 4, 3, 2, 1, 0] [(21, .slice A203 (x201).length cap204)] (by kernel_rfl) (qT (qT (qB (qT (qL (qB (qT (qT qZ)))))))) (by kernel_rfl) ?_
        obtain ⟨x252, hx253, hm⟩ := bindE hm
        refine wH_idx (i := 6) (d := 22) (T := 38) (A := A203) (n := (x201).length) (cap := cap204) (kd := .i64) (m := 0) (by kernel_rfl) (qT (qT (qB (qT (qL (qB (qT (qT qZ)))))))) (by kernel_rfl) (by kernel_rfl) sl38 (F205.is hx253) ?_
        refine wH_load1 (i := 7) (d := 23) (T := 2) (ad := (elA A203 1 (0) 0)) (v := .int .i64 (x252)) (by kernel_rfl) (qT (qT (qB (qT (qL (qB (qT (qT qZ)))))))) (by kernel_rfl) (by kernel_rfl) vt2 (fun W hW => Sl.cell (Z249.chg hW Dj.nil) hx253 0 (by rfl)) ?_
        refine wH_take [8, 9, 10] [10, 9, 8, 7, 6, 5, 4, 3, 2, 1, 0] [(26, .bool (decide (x252 < 0))), (25, .bool (decide (x252 < 0))), (24, .bool (decide (x252 < 0)))] (by kernel_rfl) (qT (qT (qB (qT (qL (qB (qT (qT qZ)))))))) (by kernel_rfl) ?_
        refine wH_bool (decide (x252 < 0)) (fun hb254 => ?_) (fun hb254 => ?_)
        · have hm := condT hb254 hm
          rewrite [hb254]
          refine wH_take [11, 12, 13, 14, 15, 16, 17, 18, 19, 20, 21, 22, 23, 24, 25, 26, 27, 28, 29, 30, 31, 32, 33, 34, 35, 36, 37, 38] [38, 37, 36, 35, 34, 33, 32, 31, 30, 29, 28, 27, 26, 25, 24, 23, 22, 21, 20, 19, 18, 17, 16, 15, 14, 13, 12, 11, 10, 9, 8, 7, 6, 5, 4, 3, 2, 1, 0] [(54, undef), (53, undef), (52, undef), (51, undef), (50, undef), (49, undef), (48, undef), (47, undef), (46, undef), (45, .bool (true)), (44, .bool (true)), (43, undef), (42, undef), (41, undef), (40, undef), (39, undef), (38, undef), (37, undef), (36, undef), (35, .bool (true)), (34, .bool (true)), (33, undef), (32, undef), (31, undef), (30, undef), (29, undef), (28, undef), (27, undef)] (by kernel_rfl) (qT (qT (qB (qT (qL (qB (qT (qT qZ)))))))) (by kernel_rfl) ?_
          refine wH_done (by kernel_rfl) ?_
          refine eX_tail ?_
          refine wS_pure 4 [(58, .bool (true)), (57, undef), (56, undef), (55, undef)] (by kernel_rfl) ?_
          refine wS_end (by rfl) ?_
          refine eX_then ?_
          refine cW_prune [(0, .pointer (some ⟨b0, 0, none⟩)), (1, .slice A1 (l1).length cap1), (2, .int .i64 (p2)), (9, .slice A1 (l1).length cap1), (10, .int .i64 (((l1).length : Int))), (11, .int .i64 (x187)), (58, .bool (true))] (by kernel_rfl) (by kernel_rfl) (fun a255 => ?_)
          refine cW_cond_t (by kernel_rfl) ?_
          refine cW_seq ?_
          refine cW_region ?_
          refine wS_pure 1 [(6, .bool (false))] (by kernel_rfl) ?_
          refine wS_end (by rfl) ?_
          refine eX_then ?_
          refine cW_ret ?_
          refine eX_block_ret ?_
          refine eX_then_ret ?_
          have hq : (some (Ctl.out (Sum.inr false)) : Option (Ctl (Int) (Sum (Unit) ((Bool))))) = some _ := hm
          replace hq := someE hq
          subst hq
          refine eX_outR hx199 (fun hr => ?_)
          subst hr
          refine eX_block_ret ?_
          refine eX_then_ret ?_
          refine eX_then_ret ?_
          have hq : (some false : Option ((Bool))) = some _ := hm196
          replace hq := someE hq
          subst hq
          refine eX_ret (vs := [.bool (false)]) [.tmp 6] (by rfl) ⟨by (show lkE _ _ _ = _); kernel_rfl, trivial⟩ ?_
          exact ⟨rfl, hB⟩
        · have hm := condF hb254 hm
          rewrite [hb254]
          refine wH_take [11] [11, 10, 9, 8, 7, 6, 5, 4, 3, 2, 1, 0] [(27, .slice A203 (x201).length cap204)] (by kernel_rfl) (qT (qT (qB (qT (qL (qB (qT (qT qZ)))))))) (by kernel_rfl) ?_
          obtain ⟨x256, hx257, hm⟩ := bindE hm
          refine wH_idx (i := 12) (d := 28) (T := 38) (A := A203) (n := (x201).length) (cap := cap204) (kd := .i64) (m := 0) (by kernel_rfl) (qT (qT (qB (qT (qL (qB (qT (qT qZ)))))))) (by kernel_rfl) (by kernel_rfl) sl38 (F205.is hx257) ?_
          refine wH_load1 (i := 13) (d := 29) (T := 2) (ad := (elA A203 1 (0) 0)) (v := .int .i64 (x256)) (by kernel_rfl) (qT (qT (qB (qT (qL (qB (qT (qT qZ)))))))) (by kernel_rfl) (by kernel_rfl) vt2 (fun W hW => Sl.cell (Z249.chg hW Dj.nil) hx257 0 (by rfl)) ?_
          refine wH_take [14] [14, 13, 12, 11, 10, 9, 8, 7, 6, 5, 4, 3, 2, 1, 0] [(30, .slice A203 (x201).length cap204)] (by kernel_rfl) (qT (qT (qB (qT (qL (qB (qT (qT qZ)))))))) (by kernel_rfl) ?_
          obtain ⟨x258, hx259, hm⟩ := bindE hm
          refine wH_idx (i := 15) (d := 31) (T := 38) (A := A203) (n := (x201).length) (cap := cap204) (kd := .i64) (m := 1) (by kernel_rfl) (qT (qT (qB (qT (qL (qB (qT (qT qZ)))))))) (by kernel_rfl) (by kernel_rfl) sl38 (F205.is hx259) ?_
          refine wH_load1 (i := 16) (d := 32) (T := 2) (ad := (elA A203 1 (1) 0)) (v := .int .i64 (x258)) (by kernel_rfl) (qT (qT (qB (qT (qL (qB (qT (qT qZ)))))))) (by kernel_rfl) (by kernel_rfl) vt2 (fun W hW => Sl.cell (Z249.chg hW Dj.nil) hx259 0 (by rfl)) ?_
          refine wH_take [17, 18, 19] [19, 18, 17, 16, 15, 14, 13, 12, 11, 10, 9, 8, 7, 6, 5, 4, 3, 2, 1, 0] [(35, .bool (decide (x256 ≥ x258))), (34, .bool (decide (x256 ≥ x258))), (33, .bool (decide (x256 ≥ x258)))] (by kernel_rfl) (qT (qT (qB (qT (qL (qB (qT (qT qZ)))))))) (by kernel_rfl) ?_
          refine wH_bool (decide (x256 ≥ x258)) (fun hb260 => ?_) (fun hb260 => ?_)
          · have hm := condT hb260 hm
            rewrite [hb260]
            refine wH_take [20, 21, 22, 23, 24, 25, 26, 27, 28, 29, 30, 31, 32, 33, 34, 35, 36, 37, 38] [38, 37, 36, 35, 34, 33, 32, 31, 30, 29, 28, 27, 26, 25, 24, 23, 22, 21, 20, 19, 18, 17, 16, 15, 14, 13, 12, 11, 10, 9, 8, 7, 6, 5, 4, 3, 2, 1, 0] [(54, undef), (53, undef), (52, undef), (51, undef), (50, undef), (49, undef), (48, undef), (47, undef), (46, undef), (45, .bool (true)), (44, .bool (true)), (43, undef), (42, undef), (41, undef), (40, undef), (39, undef), (38, undef), (37, undef), (36, undef)] (by kernel_rfl) (qT (qT (qB (qT (qL (qB (qT (qT qZ)))))))) (by kernel_rfl) ?_
            refine wH_done (by kernel_rfl) ?_
            refine eX_tail ?_
            refine wS_pure 4 [(58, .bool (true)), (57, undef), (56, undef), (55, undef)] (by kernel_rfl) ?_
            refine wS_end (by rfl) ?_
            refine eX_then ?_
            refine cW_prune [(0, .pointer (some ⟨b0, 0, none⟩)), (1, .slice A1 (l1).length cap1), (2, .int .i64 (p2)), (9, .slice A1 (l1).length cap1), (10, .int .i64 (((l1).length : Int))), (11, .int .i64 (x187)), (58, .bool (true))] (by kernel_rfl) (by kernel_rfl) (fun a261 => ?_)
            refine cW_cond_t (by kernel_rfl) ?_
            refine cW_seq ?_
            refine cW_region ?_
            refine wS_pure 1 [(6, .bool (false))] (by kernel_rfl) ?_
            refine wS_end (by rfl) ?_
            refine eX_then ?_
            refine cW_ret ?_
            refine eX_block_ret ?_
            refine eX_then_ret ?_
            have hq : (some (Ctl.out (Sum.inr false)) : Option (Ctl (Int) (Sum (Unit) ((Bool))))) = some _ := hm
            replace hq := someE hq
            subst hq
            refine eX_outR hx199 (fun hr => ?_)
            subst hr
            refine eX_block_ret ?_
            refine eX_then_ret ?_
            refine eX_then_ret ?_
            have hq : (some false : Option ((Bool))) = some _ := hm196
            replace hq := someE hq
            subst hq
            refine eX_ret (vs := [.bool (false)]) [.tmp 6] (by rfl) ⟨by (show lkE _ _ _ = _); kernel_rfl, trivial⟩ ?_
            exact ⟨rfl, hB⟩
          · have hm := condF hb260 hm
            rewrite [hb260]
            refine wH_take [20] [20, 19, 18, 17, 16, 15, 14, 13, 12, 11, 10, 9, 8, 7, 6, 5, 4, 3, 2, 1, 0] [(36, .slice A203 (x201).length cap204)] (by kernel_rfl) (qT (qT (qB (qT (qL (qB (qT (qT qZ)))))))) (by kernel_rfl) ?_
            obtain ⟨x262, hx263, hm⟩ := bindE hm
            refine wH_idx (i := 21) (d := 37) (T := 38) (A := A203) (n := (x201).length) (cap := cap204) (kd := .i64) (m := 1) (by kernel_rfl) (qT (qT (qB (qT (qL (qB (qT (qT qZ)))))))) (by kernel_rfl) (by kernel_rfl) sl38 (F205.is hx263) ?_
            refine wH_load1 (i := 22) (d := 38) (T := 2) (ad := (elA A203 1 (1) 0)) (v := .int .i64 (x262)) (by kernel_rfl) (qT (qT (qB (qT (qL (qB (qT (qT qZ)))))))) (by kernel_rfl) (by kernel_rfl) vt2 (fun W hW => Sl.cell (Z249.chg hW Dj.nil) hx263 0 (by rfl)) ?_
            refine wH_take [23, 24, 25] [25, 24, 23, 22, 21, 20, 19, 18, 17, 16, 15, 14, 13, 12, 11, 10, 9, 8, 7, 6, 5, 4, 3, 2, 1, 0] [(41, .pointer (some ⟨b0, 0, none⟩)), (40, .pointer (some ⟨b0, 0, none⟩)), (39, .pointer (some ⟨b0, 0, none⟩))] (by kernel_rfl) (qT (qT (qB (qT (qL (qB (qT (qT qZ)))))))) (by kernel_rfl) ?_
            refine wH_load1 (i := 26) (d := 42) (T := 2) (ad := ⟨b0, 0, none⟩) (v := .int .i64 (q0_0)) (by kernel_rfl) (qT (qT (qB (qT (qL (qB (qT (qT qZ)))))))) (by kernel_rfl) (by kernel_rfl) vt2 (fun W hW => (Z247.chg hW notNil).cell 0) ?_
            refine wH_take [27, 28, 29] [29, 28, 27, 26, 25, 24, 23, 22, 21, 20, 19, 18, 17, 16, 15, 14, 13, 12, 11, 10, 9, 8, 7, 6, 5, 4, 3, 2, 1, 0] [(45, .bool (decide (x262 ≥ q0_0))), (44, .bool (decide (x262 ≥ q0_0))), (43, .bool (decide (x262 ≥ q0_0)))] (by kernel_rfl) (qT (qT (qB (qT (qL (qB (qT (qT qZ)))))))) (by kernel_rfl) ?_
            refine wH_bool (decide (x262 ≥ q0_0)) (fun hb264 => ?_) (fun hb264 => ?_)
            · have hm := condT hb264 hm
              rewrite [hb264]
              refine wH_take [30, 31, 32, 33, 34, 35, 36, 37, 38] [38, 37, 36, 35, 34, 33, 32, 31, 30, 29, 28, 27, 26, 25, 24, 23, 22, 21, 20, 19, 18, 17, 16, 15, 14, 13, 12, 11, 10, 9, 8, 7, 6, 5, 4, 3, 2, 1, 0] [(54, undef), (53, undef), (52, undef), (51, undef), (50, undef), (49, undef), (48, undef), (47, undef), (46, undef)] (by kernel_rfl) (qT (qT (qB (qT (qL (qB (qT (qT qZ)))))))) (by kernel_rfl) ?_
              refine wH_done (by kernel_rfl) ?_
              refine eX_tail ?_
              refine wS_pure 4 [(58, .bool (true)), (57, undef), (56, undef), (55, undef)] (by kernel_rfl) ?_
              refine wS_end (by rfl) ?_
              refine eX_then ?_
              refine cW_prune [(0, .pointer (some ⟨b0, 0, none⟩)), (1, .slice A1 (l1).length cap1), (2, .int .i64 (p2)), (9, .slice A1 (l1).length cap1), (10, .int .i64 (((l1).length : Int))), (11, .int .i64 (x187)), (58, .bool (true))] (by kernel_rfl) (by kernel_rfl) (fun a265 => ?_)
              refine cW_cond_t (by kernel_rfl) ?_
              refine cW_seq ?_
              refine cW_region ?_
              refine wS_pure 1 [(6, .bool (false))] (by kernel_rfl) ?_
              refine wS_end (by rfl) ?_
              refine eX_then ?_
              refine cW_ret ?_
              refine eX_block_ret ?_
              refine eX_then_ret ?_
              have hq : (some (Ctl.out (Sum.inr false)) : Option (Ctl (Int) (Sum (Unit) ((Bool))))) = some _ := hm
              replace hq := someE hq
              subst hq
              refine eX_outR hx199 (fun hr => ?_)
              subst hr
              refine eX_block_ret ?_
              refine eX_then_ret ?_
              refine eX_then_ret ?_
              have hq : (some false : Option ((Bool))) = some _ := hm196
              replace hq := someE hq
              subst hq
              refine eX_ret (vs := [.bool (false)]) [.tmp 6] (by rfl) ⟨by (show lkE _ _ _ = _); kernel_rfl, trivial⟩ ?_
              exact ⟨rfl, hB⟩
            · have hm := condF hb264 hm
              rewrite [hb264]
              refine wH_take [30, 31, 32] [32, 31, 30, 29, 28, 27, 26, 25, 24, 23, 22, 21, 20, 19, 18, 17, 16, 15, 14, 13, 12, 11, 10, 9, 8, 7, 6, 5, 4, 3, 2, 1, 0] [(48, .bool (decide (x187 > 0))), (47, .bool (decide (x187 > 0))), (46, .int .i64 (x187))] (by kernel_rfl) (qT (qT (qB (qT (qL (qB (qT (qT qZ)))))))) (by kernel_rfl) ?_
              refine wH_bool (decide (x187 > 0)) (fun hb266 => ?_) (fun hb266 => ?_)
              · have hm := condT hb266 hm
                rewrite [hb266]
                refine wH_take [33, 34, 35] [35, 34, 33, 32, 31, 30, 29, 28, 27, 26, 25, 24, 23, 22, 21, 20, 19, 18, 17, 16, 15, 14, 13, 12, 11, 10, 9, 8, 7, 6, 5, 4, 3, 2, 1, 0] [(51, .int .i64 (wr (x187 - 1))), (50, .int .i64 (x187)), (49, .slice A1 (l1).length cap1)] (by kernel_rfl) (qT (qT (qB (qT (qL (qB (qT (qT qZ)))))))) (by kernel_rfl) ?_
                obtain ⟨x267, hx268, hm⟩ := bindE hm
                refine wH_idx (i := 36) (d := 52) (T := 37) (A := A1) (n := (l1).length) (cap := cap1) (kd := .i64) (m := wr (x187 - 1)) (by kernel_rfl) (qT (qT (qB (qT (qL (qB (qT (qT qZ)))))))) (by kernel_rfl) (by kernel_rfl) sl37 (F193.is hx268) ?_
                obtain ⟨A269, cap270, hc272, F271, K273⟩ := SlR.row Z248 hx268
                refine wH_load1 (i := 37) (d := 53) (T := 38) (ad := (elA A1 1 (wr (x187 - 1)) 0)) (v := .slice A269 (x267).length cap270) (by kernel_rfl) (qT (qT (qB (qT (qL (qB (qT (qT qZ)))))))) (by kernel_rfl) (by kernel_rfl) vt38 (fun W hW => hW.keep hc272) ?_
                refine wH_take [38] [38, 37, 36, 35, 34, 33, 32, 31, 30, 29, 28, 27, 26, 25, 24, 23, 22, 21, 20, 19, 18, 17, 16, 15, 14, 13, 12, 11, 10, 9, 8, 7, 6, 5, 4, 3, 2, 1, 0] [(54, .slice A203 (x201).length cap204)] (by kernel_rfl) (qT (qT (qB (qT (qL (qB (qT (qT qZ)))))))) (by kernel_rfl) ?_
                refine wH_done (by kernel_rfl) ?_
                refine eX_tail ?_
                obtain ⟨y275, hy276, hm⟩ := bindE hm
                refine wS_calls (d := 55) (f := 124) (vs := [.slice A269 (x267).length cap270, .slice A203 (x201).length cap204]) (by kernel_rfl) ent124 (c_slices_Compare_int64_int64 hy276 F271 F205) ?_
                rintro _ w277 ⟨rfl, hc278⟩
                replace F189 := F189.chg hc278 Dj.nil
                replace F190 := F190.chg hc278 Dj.nil
                replace F191 := F191.chg hc278 Dj.nil
                replace F192 := F192.chg hc278 notNil
                replace F193 := F193.chg hc278 Dj.nil
                replace F205 := F205.chg hc278 Dj.nil
                replace F271 := F271.chg hc278 Dj.nil
                replace hB := hB.inS hc278 inNil
                replace hZ := Nat.le_trans hZ hc278.size
                refine ⟨.int .i64 (y275), rfl, ?_⟩
                refine wS_pure 3 [(58, .bool (decide (y275 ≥ 0))), (57, .bool (decide (y275 ≥ 0))), (56, .bool (decide (y275 ≥ 0)))] (by kernel_rfl) ?_
                refine wS_end (by rfl) ?_
                refine eX_then ?_
                refine cW_prune [(0, .pointer (some ⟨b0, 0, none⟩)), (1, .slice A1 (l1).length cap1), (2, .int .i64 (p2)), (9, .slice A1 (l1).length cap1), (10, .int .i64 (((l1).length : Int))), (11, .int .i64 (x187)), (58, .bool (decide (y275 ≥ 0)))] (by kernel_rfl) (by kernel_rfl) (fun a279 => ?_)
                refine cW_cond (t := decide (y275 ≥ 0)) (by kernel_rfl) (fun hb280 => ?_) (fun hb280 => ?_)
                · have hm := condT hb280 hm
                  refine cW_seq ?_
                  refine cW_region ?_
                  refine wS_pure 1 [(6, .bool (false))] (by kernel_rfl) ?_
                  refine wS_end (by rfl) ?_
                  refine eX_then ?_
                  refine cW_ret ?_
                  refine eX_block_ret ?_
                  refine eX_then_ret ?_
                  have hq : (some (Ctl.out (Sum.inr false)) : Option (Ctl (Int) (Sum (Unit) ((Bool))))) = some _ := hm
                  replace hq := someE hq
                  subst hq
                  refine eX_outR hx199 (fun hr => ?_)
                  subst hr
                  refine eX_block_ret ?_
                  refine eX_then_ret ?_
                  refine eX_then_ret ?_
                  have hq : (some false : Option ((Bool))) = some _ := hm196
                  replace hq := someE hq
                  subst hq
                  refine eX_ret (vs := [.bool (false)]) [.tmp 6] (by rfl) ⟨by (show lkE _ _ _ = _); kernel_rfl, trivial⟩ ?_
                  exact ⟨rfl, hB⟩
                · have hm := condF hb280 hm
                  refine cW_skip ?_
                  refine eX_block ?_
                  refine eX_then ?_
                  refine cW_region ?_
                  refine wS_pure 2 [(11, .int .i64 (wr (x187 + 1))), (59, .int .i64 (wr (x187 + 1)))] (by kernel_rfl) ?_
                  refine wS_end (by rfl) ?_
                  have hq : (some (Ctl.next (wr (x187 + 1))) : Option (Ctl (Int) (Sum (Unit) ((Bool))))) = some _ := hm
                  replace hq := someE hq
                  subst hq
                  exact eX_next hx199 (fun hst => ⟨wr (x187 + 1), rfl, Fr.of hst (by kernel_rfl), F189, F190, F191, F192, F193, hB, hZ⟩)
              · have hm := condF hb266 hm
                rewrite [hb266]
                refine wH_take [33, 34, 35, 36, 37, 38] [38, 37, 36, 35, 34, 33, 32, 31, 30, 29, 28, 27, 26, 25, 24, 23, 22, 21, 20, 19, 18, 17, 16, 15, 14, 13, 12, 11, 10, 9, 8, 7, 6, 5, 4, 3, 2, 1, 0] [(54, undef), (53, undef), (52, undef), (51, undef), (50, undef), (49, undef)] (by kernel_rfl) (qT (qT (qB (qT (qL (qB (qT (qT qZ)))))))) (by kernel_rfl) ?_
                refine wH_done (by kernel_rfl) ?_
                refine eX_tail ?_
                refine wS_pure 4 [(58, .bool (false)), (57, .bool (false)), (56, undef), (55, undef)] (by kernel_rfl) ?_
                refine wS_end (by rfl) ?_
                refine eX_then ?_
                refine cW_prune [(0, .pointer (some ⟨b0, 0, none⟩)), (1, .slice A1 (l1).length cap1), (2, .int .i64 (p2)), (9, .slice A1 (l1).length cap1), (10, .int .i64 (((l1).length : Int))), (11, .int .i64 (x187)), (58, .bool (false))] (by kernel_rfl) (by kernel_rfl) (fun a281 => ?_)
                refine cW_cond_f (by kernel_rfl) ?_
                refine cW_skip ?_
                refine eX_block ?_
                refine eX_then ?_
                refine cW_region ?_
                refine wS_pure 2 [(11, .int .i64 (wr (x187 + 1))), (59, .int .i64 (wr (x187 + 1)))] (by kernel_rfl) ?_
                refine wS_end (by rfl) ?_
                have hq : (some (Ctl.next (wr (x187 + 1))) : Option (Ctl (Int) (Sum (Unit) ((Bool))))) = some _ := hm
                replace hq := someE hq
                subst hq
                exact eX_next hx199 (fun hst => ⟨wr (x187 + 1), rfl, Fr.of hst (by kernel_rfl), F189, F190, F191, F192, F193, hB, hZ⟩)
    · have hm := condF hb200 hm
      refine cW_exit ?_
      refine eX_then_exit ?_
      have hq : (some (Ctl.out (Sum.inl (()))) : Option (Ctl (Int) (Sum (Unit) ((Bool))))) = some _ := hm
      replace hq := someE hq
      subst hq
      refine eX_outX hx199 (fun hr282 => ?_)
      replace hr282 := hr282.symm
      subst hr282
      refine eX_block_hit ?_
      exact eX_J (fun hst => ⟨rfl, Fr.of hst (by kernel_rfl), F193, hB, hZ⟩)
  · rintro a' w183 ⟨hJ, hF184, F185, hB, hZ⟩
    subst hJ
    refine Fr.goX hF184 (by kernel_rfl) ?_
    refine eX_then ?_
    refine cW_seq ?_
    refine cW_region ?_
    refine wS_pure 4 [(6, .bool (decide ((((l1).length : Int)) ≤ 30))), (62, .bool (decide ((((l1).length : Int)) ≤ 30))), (61, .int .i64 (((l1).length : Int))), (60, .slice A1 (l1).length cap1)] (by kernel_rfl) ?_
    refine wS_end (by rfl) ?_
    refine eX_then ?_
    refine cW_ret ?_
    have hq : (some (decide ((((l1).length : Int)) ≤ 30)) : Option ((Bool))) = some _ := hm
    replace hq := someE hq
    subst hq
    refine eX_ret (vs := [.bool (decide ((((l1).length : Int)) ≤ 30))]) [.tmp 6] (by rfl) ⟨by (show lkE _ _ _ = _); kernel_rfl, trivial⟩ ?_
    exact ⟨rfl, hB⟩

set_option maxRecDepth 100000 in
/-- slices.IndexFunc[[][]int64,[]int64] -/
theorem c_slices_IndexFunc_int64_int64_impl_ValidWiring_1 {w0 : World} {l0 : List (List (Int))} {A0 : Option Addr} {cap0 : Nat} {fp0 : List Nat} {r : (Int)} (hm : m_slices_IndexFunc_int64_int64_impl_ValidWiring_1 l0 = some r) (F0 : SlR 1 encI w0 fp0 A0 l0) :
    Calls Try.prog 125 #[.slice A0 (l0).length cap0, .func (.func 86) #[] #[]] w0 fun e w' => e = .returned (.int .i64 (r)) ∧ Chg [] w0 w' := by
  have L0 := F0.low
  have hB : Chg [] w0 w0 := Chg.refl _ _
  have hZ := Nat.le_refl w0.heap.size
  unfold m_slices_IndexFunc_int64_int64_impl_ValidWiring_1 at hm
  refine enterE (N := 19) Try.func125 (by rfl) Try.ntmps125 (by simp) [(0, .slice A0 (l0).length cap0), (1, .func (.func 86) #[] #[])] (by rfl) (by kernel_rfl) (fun a => ?_)
  refine cW_seq ?_
  refine cW_region ?_
  refine wS_pure 1 [(4, .int .i64 (0))] (by kernel_rfl) ?_
  refine wS_end (by rfl) ?_
  refine eX_then ?_
  refine cW_seq ?_
  refine cW_seq ?_
  refine cW_region ?_
  refine wS_pure 3 [(8, .int .i64 (0)), (7, .int .i64 (((l0).length : Int))), (6, .slice A0 (l0).length cap0)] (by kernel_rfl) ?_
  refine wS_end (by rfl) ?_
  refine eX_then ?_
  obtain ⟨r41, hr42, hm⟩ := bindE hm
  have hm43 := hm
  refine cW_cut (fun a' w' => Sum.inl (()) = r41 ∧ Fr 19 [] a' ∧ Chg [] w0 w' ∧ w0.heap.size ≤ w'.heap.size) ?_ ?_
  · refine cW_block ?_
    refine cW_loop _ (fun (s44 : Int) a' w' => ∃ x38 : Int, x38 = s44 ∧ Fr 19 [(0, .slice A0 (l0).length cap0), (1, .func (.func 86) #[] #[]), (7, .int .i64 (((l0).length : Int))), (8, .int .i64 (x38))] a' ∧ SlR 1 encI w' fp0 A0 l0 ∧ Chg [] w0 w' ∧ w0.heap.size ≤ w'.heap.size) hr42 (fun hst => ⟨0, rfl, Fr.of hst (by kernel_rfl), F0, hB, hZ⟩) ?_
    rintro _ c45 a' w37 ⟨x38, rfl, hF39, F40, hB, hZ⟩ hx46
    refine Fr.goOn hF39 (by kernel_rfl) ?_
    have hm := hx46
    unfold m_slices_IndexFunc_int64_int64_impl_ValidWiring_1_s1 at hm
    refine cW_seq ?_
    refine cW_region ?_
    refine wS_pure 1 [(9, .bool (decide (x38 < (((l0).length : Int)))))] (by kernel_rfl) ?_
    refine wS_end (by rfl) ?_
    refine eX_then ?_
    refine cW_seq ?_
    refine cW_cond (t := decide (x38 < (((l0).length : Int)))) (by kernel_rfl) (fun hb47 => ?_) (fun hb47 => ?_)
    · have hm := condT hb47 hm
      refine cW_skip ?_
      refine eX_then ?_
      refine cW_seq ?_
      refine cW_block ?_
      refine cW_seq ?_
      refine cW_region ?_
      refine wS_pure 2 [(5, .int .i64 (x38)), (10, .int .i64 (x38))] (by kernel_rfl) ?_
      refine wS_end (by rfl) ?_
      refine eX_then ?_
      refine cW_seq ?_
      refine cW_region ?_
      refine wS_pure 3 [(13, .int .i64 (x38)), (12, .slice A0 (l0).length cap0), (11, .func (.func 86) #[] #[])] (by kernel_rfl) ?_
      obtain ⟨x48, hx49, hm⟩ := bindE hm
      refine wS_idx (d := 14) (T := 37) (A := A0) (n := (l0).length) (cap := cap0) (kd := .i64) (m := x38) (by kernel_rfl) sl37 (F40.is hx49) ?_
      obtain ⟨A50, cap51, hc53, F52, K54⟩ := SlR.row F40 hx49
      refine wS_load1 (d := 15) (T := 38) (ad := (elA A0 1 (x38) 0)) (v := .slice A50 (x48).length cap51) (by kernel_rfl) vt38 hc53 ?_
      obtain ⟨y56, hy57, hm⟩ := bindE hm
      refine wS_calls (d := 16) (f := 86) (vs := [.slice A50 (x48).length cap51]) (by kernel_rfl) ent86 (c_impl_ValidWiring_1 hy57 F52) ?_
      rintro _ w58 ⟨rfl, hc59⟩
      replace F40 := F40.chg hc59 Dj.nil
      replace F52 := F52.chg hc59 Dj.nil
      replace hB := hB.inS hc59 inNil
      replace hZ := Nat.le_trans hZ hc59.size
      refine ⟨.bool (y56), rfl, ?_⟩
      refine wS_end (by rfl) ?_
      refine eX_then ?_
      refine cW_cond (t := y56) (by kernel_rfl) (fun hb60 => ?_) (fun hb60 => ?_)
      · have hm := condT hb60 hm
        refine cW_seq ?_
        refine cW_region ?_
        refine wS_pure 2 [(4, .int .i64 (x38)), (17, .int .i64 (x38))] (by kernel_rfl) ?_
        refine wS_end (by rfl) ?_
        refine eX_then ?_
        refine cW_ret ?_
        refine eX_block_ret ?_
        refine eX_then_ret ?_
        have hq : (some (Ctl.out (Sum.inr x38)) : Option (Ctl (Int) (Sum (Unit) ((Int))))) = some _ := hm
        replace hq := someE hq
        subst hq
        refine eX_outR hx46 (fun hr => ?_)
        subst hr
        refine eX_block_ret ?_
        refine eX_then_ret ?_
        refine eX_then_ret ?_
        have hq : (some x38 : Option ((Int))) = some _ := hm43
        replace hq := someE hq
        subst hq
        refine eX_ret (vs := [.int .i64 (x38)]) [.tmp 4] (by rfl) ⟨by (show lkE _ _ _ = _); kernel_rfl, trivial⟩ ?_
        exact ⟨rfl, hB⟩
      · have hm := condF hb60 hm
        refine cW_skip ?_
        refine eX_block ?_
        refine eX_then ?_
        refine cW_region ?_
        refine wS_pure 2 [(8, .int .i64 (wr (x38 + 1))), (18, .int .i64 (wr (x38 + 1)))] (by kernel_rfl) ?_
        refine wS_end (by rfl) ?_
        have hq : (some (Ctl.next (wr (x38 + 1))) : Option (Ctl (Int) (Sum (Unit) ((Int))))) = some _ := hm
        replace hq := someE hq
        subst hq
        exact eX_next hx46 (fun hst => ⟨wr (x38 + 1), rfl, Fr.of hst (by kernel_rfl), F40, hB, hZ⟩)
    · have hm := condF hb47 hm
      refine cW_exit ?_
      refine eX_then_exit ?_
      have hq : (some (Ctl.out (Sum.inl (()))) : Option (Ctl (Int) (Sum (Unit) ((Int))))) = some _ := hm
      replace hq := someE hq
      subst hq
      refine eX_outX hx46 (fun hr61 => ?_)
      replace hr61 := hr61.symm
      subst hr61
      refine eX_block_hit ?_
      exact eX_J (fun hst => ⟨rfl, Fr.of hst (by kernel_rfl), hB, hZ⟩)
  · rintro a' w35 ⟨hJ, hF36, hB, hZ⟩
    subst hJ
    refine Fr.goX hF36 (by kernel_rfl) ?_
    refine eX_then ?_
    refine cW_seq ?_
    refine cW_region ?_
    refine wS_pure 1 [(4, .int .i64 ((-1)))] (by kernel_rfl) ?_
    refine wS_end (by rfl) ?_
    refine eX_then ?_
    refine cW_ret ?_
    have hq : (some ((-1)) : Option ((Int))) = some _ := hm
    replace hq := someE hq
    subst hq
    refine eX_ret (vs := [.int .i64 ((-1))]) [.tmp 4] (by rfl) ⟨by (show lkE _ _ _ = _); kernel_rfl, trivial⟩ ?_
    exact ⟨rfl, hB⟩

set_option maxRecDepth 100000 in
/-- slices.ContainsFunc[[][]int64,[]int64] -/
theorem c_slices_ContainsFunc_int64_int64_impl_ValidWiring_1 {w0 : World} {l0 : List (List (Int))} {A0 : Option Addr} {cap0 : Nat} {fp0 : List Nat} {r : (Bool)} (hm : m_slices_ContainsFunc_int64_int64_impl_ValidWiring_1 l0 = some r) (F0 : SlR 1 encI w0 fp0 A0 l0) :
    Calls Try.prog 85 #[.slice A0 (l0).length cap0, .func (.func 86) #[] #[]] w0 fun e w' => e = .returned (.bool (r)) ∧ Chg [] w0 w' := by
  have L0 := F0.low
  have hB : Chg [] w0 w0 := Chg.refl _ _
  have hZ := Nat.le_refl w0.heap.size
  unfold m_slices_ContainsFunc_int64_int64_impl_ValidWiring_1 at hm
  refine enterE (N := 9) Try.func85 (by rfl) Try.ntmps85 (by simp) [(0, .slice A0 (l0).length cap0), (1, .func (.func 86) #[] #[])] (by rfl) (by kernel_rfl) (fun a => ?_)
  refine cW_seq ?_
  refine cW_region ?_
  refine wS_pure 1 [(4, .bool (false))] (by kernel_rfl) ?_
  refine wS_end (by rfl) ?_
  refine eX_then ?_
  refine cW_seq ?_
  refine cW_region ?_
  refine wS_pure 2 [(6, .func (.func 86) #[] #[]), (5, .slice A0 (l0).length cap0)] (by kernel_rfl) ?_
  obtain ⟨y2, hy3, hm⟩ := bindE hm
  refine wS_calls (d := 7) (f := 125) (vs := [.slice A0 (l0).length cap0, .func (.func 86) #[] #[]]) (by kernel_rfl) ent125 (c_slices_IndexFunc_int64_int64_impl_ValidWiring_1 hy3 F0) ?_
  rintro _ w4 ⟨rfl, hc5⟩
  replace F0 := F0.chg hc5 Dj.nil
  replace hB := hB.inS hc5 inNil
  replace hZ := Nat.le_trans hZ hc5.size
  refine ⟨.int .i64 (y2), rfl, ?_⟩
  refine wS_pure 2 [(4, .bool (decide (y2 ≥ 0))), (8, .bool (decide (y2 ≥ 0)))] (by kernel_rfl) ?_
  refine wS_end (by rfl) ?_
  refine eX_then ?_
  refine cW_ret ?_
  have hq : (some (decide (y2 ≥ 0)) : Option ((Bool))) = some _ := hm
  replace hq := someE hq
  subst hq
  refine eX_ret (vs := [.bool (decide (y2 ≥ 0))]) [.tmp 4] (by rfl) ⟨by (show lkE _ _ _ = _); kernel_rfl, trivial⟩ ?_
  exact ⟨rfl, hB⟩

set_option maxRecDepth 100000 in
/-- slices.IndexFunc[[]int64,int64] -/
theorem c_slices_IndexFunc_int64_int64_impl_ValidWiring_2 {w0 : World} {l0 : List (Int)} {A0 : Option Addr} {cap0 : Nat} {fp0 : List Nat} {r : (Int)} (hm : m_slices_IndexFunc_int64_int64_impl_ValidWiring_2 l0 = some r) (F0 : Sl 1 encI w0 fp0 A0 l0) :
    Calls Try.prog 126 #[.slice A0 (l0).length cap0, .func (.func 88) #[] #[]] w0 fun e w' => e = .returned (.int .i64 (r)) ∧ Chg [] w0 w' := by
  have L0 := F0.low
  have hB : Chg [] w0 w0 := Chg.refl _ _
  have hZ := Nat.le_refl w0.heap.size
  unfold m_slices_IndexFunc_int64_int64_impl_ValidWiring_2 at hm
  refine enterE (N := 19) Try.func126 (by rfl) Try.ntmps126 (by simp) [(0, .slice A0 (l0).length cap0), (1, .func (.func 88) #[] #[])] (by rfl) (by kernel_rfl) (fun a => ?_)
  refine cW_seq ?_
  refine cW_region ?_
  refine wS_pure 1 [(4, .int .i64 (0))] (by kernel_rfl) ?_
  refine wS_end (by rfl) ?_
  refine eX_then ?_
  refine cW_seq ?_
  refine cW_seq ?_
  refine cW_region ?_
  refine wS_pure 3 [(8, .int .i64 (0)), (7, .int .i64 (((l0).length : Int))), (6, .slice A0 (l0).length cap0)] (by kernel_rfl) ?_
  refine wS_end (by rfl) ?_
  refine eX_then ?_
  obtain ⟨r29, hr30, hm⟩ := bindE hm
  have hm31 := hm
  refine cW_cut (fun a' w' => Sum.inl (()) = r29 ∧ Fr 19 [] a' ∧ Chg [] w0 w' ∧ w0.heap.size ≤ w'.heap.size) ?_ ?_
  · refine cW_block ?_
    refine cW_loop _ (fun (s32 : Int) a' w' => ∃ x26 : Int, x26 = s32 ∧ Fr 19 [(0, .slice A0 (l0).length cap0), (1, .func (.func 88) #[] #[]), (7, .int .i64 (((l0).length : Int))), (8, .int .i64 (x26))] a' ∧ Sl 1 encI w' fp0 A0 l0 ∧ Chg [] w0 w' ∧ w0.heap.size ≤ w'.heap.size) hr30 (fun hst => ⟨0, rfl, Fr.of hst (by kernel_rfl), F0, hB, hZ⟩) ?_
    rintro _ c33 a' w25 ⟨x26, rfl, hF27, F28, hB, hZ⟩ hx34
    refine Fr.goOn hF27 (by kernel_rfl) ?_
    have hm := hx34
    unfold m_slices_IndexFunc_int64_int64_impl_ValidWiring_2_s1 at hm
    refine cW_seq ?_
    refine cW_region ?_
    refine wS_pure 1 [(9, .bool (decide (x26 < (((l0).length : Int)))))] (by kernel_rfl) ?_
    refine wS_end (by rfl) ?_
    refine eX_then ?_
    refine cW_seq ?_
    refine cW_cond (t := decide (x26 < (((l0).length : Int)))) (by kernel_rfl) (fun hb35 => ?_) (fun hb35 => ?_)
    · have hm := condT hb35 hm
      refine cW_skip ?_
      refine eX_then ?_
      refine cW_seq ?_
      refine cW_block ?_
      refine cW_seq ?_
      refine cW_region ?_
      refine wS_pure 2 [(5, .int .i64 (x26)), (10, .int .i64 (x26))] (by kernel_rfl) ?_
      refine wS_end (by rfl) ?_
      refine eX_then ?_
      refine cW_seq ?_
      refine cW_region ?_
      refine wS_pure 3 [(13, .int .i64 (x26)), (12, .slice A0 (l0).length cap0), (11, .func (.func 88) #[] #[])] (by kernel_rfl) ?_
      obtain ⟨x36, hx37, hm⟩ := bindE hm
      refine wS_idx (d := 14) (T := 38) (A := A0) (n := (l0).length) (cap := cap0) (kd := .i64) (m := x26) (by kernel_rfl) sl38 (F28.is hx37) ?_
      refine wS_load1 (d := 15) (T := 2) (ad := (elA A0 1 (x26) 0)) (v := .int .i64 (x36)) (by kernel_rfl) vt2 (Sl.cell F28 hx37 0 (by rfl)) ?_
      obtain ⟨y38, hy39, hm⟩ := bindE hm
      refine wS_calls (d := 16) (f := 88) (vs := [.int .i64 (x36)]) (by kernel_rfl) ent88 (c_impl_ValidWiring_2 hy39) ?_
      rintro _ w40 ⟨rfl, hc41⟩
      replace F28 := F28.chg hc41 Dj.nil
      replace hB := hB.inS hc41 inNil
      replace hZ := Nat.le_trans hZ hc41.size
      refine ⟨.bool (y38), rfl, ?_⟩
      refine wS_end (by rfl) ?_
      refine eX_then ?_
      refine cW_cond (t := y38) (by kernel_rfl) (fun hb42 => ?_) (fun hb42 => ?_)
      · have hm := condT hb42 hm
        refine cW_seq ?_
        refine cW_region ?_
        refine wS_pure 2 [(4, .int .i64 (x26)), (17, .int .i64 (x26))] (by kernel_rfl) ?_
        refine wS_end (by rfl) ?_
        refine eX_then ?_
        refine cW_ret ?_
        refine eX_block_ret ?_
        refine eX_then_ret ?_
        have hq : (some (Ctl.out (Sum.inr x26)) : Option (Ctl (Int) (Sum (Unit) ((Int))))) = some _ := hm
        replace hq := someE hq
        subst hq
        refine eX_outR hx34 (fun hr => ?_)
        subst hr
        refine eX_block_ret ?_
        refine eX_then_ret ?_
        refine eX_then_ret ?_
        have hq : (some x26 : Option ((Int))) = some _ := hm31
        replace hq := someE hq
        subst hq
        refine eX_ret (vs := [.int .i64 (x26)]) [.tmp 4] (by rfl) ⟨by (show lkE _ _ _ = _); kernel_rfl, trivial⟩ ?_
        exact ⟨rfl, hB⟩
      · have hm := condF hb42 hm
        refine cW_skip ?_
        refine eX_block ?_
        refine eX_then ?_
        refine cW_region ?_
        refine wS_pure 2 [(8, .int .i64 (wr (x26 + 1))), (18, .int .i64 (wr (x26 + 1)))] (by kernel_rfl) ?_
        refine wS_end (by rfl) ?_
        have hq : (some (Ctl.next (wr (x26 + 1))) : Option (Ctl (Int) (Sum (Unit) ((Int))))) = some _ := hm
        replace hq := someE hq
        subst hq
        exact eX_next hx34 (fun hst => ⟨wr (x26 + 1), rfl, Fr.of hst (by kernel_rfl), F28, hB, hZ⟩)
    · have hm := condF hb35 hm
      refine cW_exit ?_
      refine eX_then_exit ?_
      have hq : (some (Ctl.out (Sum.inl (()))) : Option (Ctl (Int) (Sum (Unit) ((Int))))) = some _ := hm
      replace hq := someE hq
      subst hq
      refine eX_outX hx34 (fun hr43 => ?_)
      replace hr43 := hr43.symm
      subst hr43
      refine eX_block_hit ?_
      exact eX_J (fun hst => ⟨rfl, Fr.of hst (by kernel_rfl), hB, hZ⟩)
  · rintro a' w23 ⟨hJ, hF24, hB, hZ⟩
    subst hJ
    refine Fr.goX hF24 (by kernel_rfl) ?_
    refine eX_then ?_
    refine cW_seq ?_
    refine cW_region ?_
    refine wS_pure 1 [(4, .int .i64 ((-1)))] (by kernel_rfl) ?_
    refine wS_end (by rfl) ?_
    refine eX_then ?_
    refine cW_ret ?_
    have hq : (some ((-1)) : Option ((Int))) = some _ := hm
    replace hq := someE hq
    subst hq
    refine eX_ret (vs := [.int .i64 ((-1))]) [.tmp 4] (by rfl) ⟨by (show lkE _ _ _ = _); kernel_rfl, trivial⟩ ?_
    exact ⟨rfl, hB⟩

set_option maxRecDepth 100000 in
/-- slices.ContainsFunc[[]int64,int64] -/
theorem c_slices_ContainsFunc_int64_int64_impl_ValidWiring_2 {w0 : World} {l0 : List (Int)} {A0 : Option Addr} {cap0 : Nat} {fp0 : List Nat} {r : (Bool)} (hm : m_slices_ContainsFunc_int64_int64_impl_ValidWiring_2 l0 = some r) (F0 : Sl 1 encI w0 fp0 A0 l0) :
    Calls Try.prog 87 #[.slice A0 (l0).length cap0, .func (.func 88) #[] #[]] w0 fun e w' => e = .returned (.bool (r)) ∧ Chg [] w0 w' := by
  have L0 := F0.low
  have hB : Chg [] w0 w0 := Chg.refl _ _
  have hZ := Nat.le_refl w0.heap.size
  unfold m_slices_ContainsFunc_int64_int64_impl_ValidWiring_2 at hm
  refine enterE (N := 9) Try.func87 (by rfl) Try.ntmps87 (by simp) [(0, .slice A0 (l0).length cap0), (1, .func (.func 88) #[] #[])] (by rfl) (by kernel_rfl) (fun a => ?_)
  refine cW_seq ?_
  refine cW_region ?_
  refine wS_pure 1 [(4, .bool (false))] (by kernel_rfl) ?_
  refine wS_end (by rfl) ?_
  refine eX_then ?_
  refine cW_seq ?_
  refine cW_region ?_
  refine wS_pure 2 [(6, .func (.func 88) #[] #[]), (5, .slice A0 (l0).length cap0)] (by kernel_rfl) ?_
  obtain ⟨y2, hy3, hm⟩ := bindE hm
  refine wS_calls (d := 7) (f := 126) (vs := [.slice A0 (l0).length cap0, .func (.func 88) #[] #[]]) (by kernel_rfl) ent126 (c_slices_IndexFunc_int64_int64_impl_ValidWiring_2 hy3 F0) ?_
  rintro _ w4 ⟨rfl, hc5⟩
  replace F0 := F0.chg hc5 Dj.nil
  replace hB := hB.inS hc5 inNil
  replace hZ := Nat.le_trans hZ hc5.size
  refine ⟨.int .i64 (y2), rfl, ?_⟩
  refine wS_pure 2 [(4, .bool (decide (y2 ≥ 0))), (8, .bool (decide (y2 ≥ 0)))] (by kernel_rfl) ?_
  refine wS_end (by rfl) ?_
  refine eX_then ?_
  refine cW_ret ?_
  have hq : (some (decide (y2 ≥ 0)) : Option ((Bool))) = some _ := hm
  replace hq := someE hq
  subst hq
  refine eX_ret (vs := [.bool (decide (y2 ≥ 0))]) [.tmp 4] (by rfl) ⟨by (show lkE _ _ _ = _); kernel_rfl, trivial⟩ ?_
  exact ⟨rfl, hB⟩

set_option maxRecDepth 100000 in
/-- impl.ValidWiring -/
theorem c_impl_ValidWiring {w0 : World} {p0_0 : Int} {l0_1 : List (List (Int))} {A0_1 : Option Addr} {cap0_1 : Nat} {fp0_1 : List Nat} {l0_2 : List (List (Int))} {A0_2 : Option Addr} {cap0_2 : Nat} {fp0_2 : List Nat} {l0_3 : List (Int)} {A0_3 : Option Addr} {cap0_3 : Nat} {fp0_3 : List Nat} {r : (Bool)} (hm : m_impl_ValidWiring p0_0 l0_1 l0_2 l0_3 = some r) (F0_1 : SlR 1 encI w0 fp0_1 A0_1 l0_1) (F0_2 : SlR 1 encI w0 fp0_2 A0_2 l0_2) (F0_3 : Sl 1 encI w0 fp0_3 A0_3 l0_3) :
    Calls Try.prog 27 #[.agg #[.int .i64 (p0_0), .slice A0_1 (l0_1).length cap0_1, .slice A0_2 (l0_2).length cap0_2, .slice A0_3 (l0_3).length cap0_3]] w0 fun e w' => e = .returned (.bool (r)) ∧ Chg [] w0 w' := by
  have L0_1 := F0_1.low
  have L0_2 := F0_2.low
  have L0_3 := F0_3.low
  have hB : Chg [] w0 w0 := Chg.refl _ _
  have hZ := Nat.le_refl w0.heap.size
  unfold m_impl_ValidWiring at hm
  refine enterE (N := 34) Try.func27 (by rfl) Try.ntmps27 (by simp) [(0, .agg #[.int .i64 (p0_0), .slice A0_1 (l0_1).length cap0_1, .slice A0_2 (l0_2).length cap0_2, .slice A0_3 (l0_3).length cap0_3])] (by rfl) (by kernel_rfl) (fun a => ?_)
  refine cW_seq ?_
  refine cW_region ?_
  refine wS_box (d := 1) (T := 43) (x := .agg #[.int .i64 (p0_0), .slice A0_1 (l0_1).length cap0_1, .slice A0_2 (l0_2).length cap0_2, .slice A0_3 (l0_3).length cap0_3]) (by kernel_rfl) ?_
  intro b4 w5 G6 F7 hc8
  replace F7 : Cl w5 b4 43 [.int .i64 (p0_0), .slice A0_1 (l0_1).length cap0_1, .slice A0_2 (l0_2).length cap0_2, .slice A0_3 (l0_3).length cap0_3] := F7
  replace F0_1 := F0_1.chg hc8 Dj.nil
  replace F0_2 := F0_2.chg hc8 Dj.nil
  replace F0_3 := F0_3.chg hc8 Dj.nil
  replace hB := hB.inS hc8 inNil
  replace G6 := Nat.le_trans hZ G6
  replace hZ := Nat.le_trans hZ hc8.size
  refine wS_pure 1 [(2, .bool (false))] (by kernel_rfl) ?_
  refine wS_end (by rfl) ?_
  refine eX_then ?_
  refine cW_seq ?_
  refine cW_seq ?_
  refine cW_region ?_
  refine wS_pure 1 [(3, .pointer (some ⟨b4, 0, none⟩))] (by kernel_rfl) ?_
  refine wS_load1 (d := 4) (T := 2) (ad := ⟨b4, 0, none⟩) (v := .int .i64 (p0_0)) (by kernel_rfl) vt2 ((F7).cell 0) ?_
  obtain ⟨y10, hy11, hm⟩ := bindE hm
  refine wS_calls (d := 5) (f := 77) (vs := [.int .i64 (p0_0), .int .i64 (0), .int .i64 (14)]) (by kernel_rfl) ent77 (c_impl_in hy11) ?_
  rintro _ w12 ⟨rfl, hc13⟩
  replace F0_1 := F0_1.chg hc13 Dj.nil
  replace F0_2 := F0_2.chg hc13 Dj.nil
  replace F0_3 := F0_3.chg hc13 Dj.nil
  replace F7 := F7.chg hc13 notNil
  replace hB := hB.inS hc13 inNil
  replace hZ := Nat.le_trans hZ hc13.size
  refine ⟨.bool (y10), rfl, ?_⟩
  refine wS_pure 2 [(7, .bool (!y10)), (6, .bool (!y10))] (by kernel_rfl) ?_
  refine wS_bool (!y10) (fun hb14 => ?_) (fun hb14 => ?_)
  · have hm := condT hb14 hm
    rewrite [hb14]
    refine wS_pure 19 [(26, .bool (true)), (25, undef), (24, undef), (23, undef), (22, undef), (21, .bool (true)), (20, .bool (true)), (19, undef), (18, undef), (17, undef), (16, undef), (15, .bool (true)), (14, .bool (true)), (13, undef), (12, undef), (11, undef), (10, undef), (9, undef), (8, undef)] (by kernel_rfl) ?_
    refine wS_end (by rfl) ?_
    refine eX_then ?_
    refine cW_prune [(1, .pointer (some ⟨b4, 0, none⟩)), (26, .bool (true))] (by kernel_rfl) (by kernel_rfl) (fun a15 => ?_)
    refine cW_cond_t (by kernel_rfl) ?_
    refine cW_seq ?_
    refine cW_region ?_
    refine wS_pure 1 [(2, .bool (false))] (by kernel_rfl) ?_
    refine wS_end (by rfl) ?_
    refine eX_then ?_
    refine cW_ret ?_
    refine eX_then_ret ?_
    have hq : (some false : Option ((Bool))) = some _ := hm
    replace hq := someE hq
    subst hq
    refine eX_ret (vs := [.bool (false)]) [.tmp 2] (by rfl) ⟨by (show lkE _ _ _ = _); kernel_rfl, trivial⟩ ?_
    exact ⟨rfl, hB⟩
  · have hm := condF hb14 hm
    rewrite [hb14]
    refine wS_pure 1 [(8, .pointer (some ⟨b4, 3, none⟩))] (by kernel_rfl) ?_
    refine wS_load1 (d := 9) (T := 38) (ad := ⟨b4, 3, none⟩) (v := .slice A0_3 (l0_3).length cap0_3) (by kernel_rfl) vt38 ((F7).cell 3) ?_
    refine wS_pure 2 [(11, .pointer (some ⟨b4, 0, none⟩)), (10, .int .i64 (((l0_3).length : Int)))] (by kernel_rfl) ?_
    refine wS_load1 (d := 12) (T := 2) (ad := ⟨b4, 0, none⟩) (v := .int .i64 (p0_0)) (by kernel_rfl) vt2 ((F7).cell 0) ?_
    refine wS_pure 3 [(15, .bool ((((l0_3).length : Int)) != p0_0)), (14, .bool ((((l0_3).length : Int)) != p0_0)), (13, .bool ((((l0_3).length : Int)) != p0_0))] (by kernel_rfl) ?_
    refine wS_bool ((((l0_3).length : Int)) != p0_0) (fun hb16 => ?_) (fun hb16 => ?_)
    · have hm := condT hb16 hm
      rewrite [hb16]
      refine wS_pure 11 [(26, .bool (true)), (25, undef), (24, undef), (23, undef), (22, undef), (21, .bool (true)), (20, .bool (true)), (19, undef), (18, undef), (17, undef), (16, undef)] (by kernel_rfl) ?_
      refine wS_end (by rfl) ?_
      refine eX_then ?_
      refine cW_prune [(1, .pointer (some ⟨b4, 0, none⟩)), (26, .bool (true))] (by kernel_rfl) (by kernel_rfl) (fun a17 => ?_)
      refine cW_cond_t (by kernel_rfl) ?_
      refine cW_seq ?_
      refine cW_region ?_
      refine wS_pure 1 [(2, .bool (false))] (by kernel_rfl) ?_
      refine wS_end (by rfl) ?_
      refine eX_then ?_
      refine cW_ret ?_
      refine eX_then_ret ?_
      have hq : (some false : Option ((Bool))) = some _ := hm
      replace hq := someE hq
      subst hq
      refine eX_ret (vs := [.bool (false)]) [.tmp 2] (by rfl) ⟨by (show lkE _ _ _ = _); kernel_rfl, trivial⟩ ?_
      exact ⟨rfl, hB⟩
    · have hm := condF hb16 hm
      rewrite [hb16]
      refine wS_pure 1 [(16, .pointer (some ⟨b4, 1, none⟩))] (by kernel_rfl) ?_
      refine wS_load1 (d := 17) (T := 37) (ad := ⟨b4, 1, none⟩) (v := .slice A0_1 (l0_1).length cap0_1) (by kernel_rfl) vt37 ((F7).cell 1) ?_
      obtain ⟨y18, hy19, hm⟩ := bindE hm
      refine wS_calls (d := 18) (f := 84) (vs := [.pointer (some ⟨b4, 0, none⟩), .slice A0_1 (l0_1).length cap0_1, .int .i64 (2)]) (by kernel_rfl) ent84 (c_impl_Wiring_pairsOk_bimplWiring hy19 F0_1 F0_2 F0_3 F7 F0_1) ?_
      rintro _ w20 ⟨rfl, hc21⟩
      replace F0_1 := F0_1.chg hc21 Dj.nil
      replace F0_2 := F0_2.chg hc21 Dj.nil
      replace F0_3 := F0_3.chg hc21 Dj.nil
      replace F7 := F7.chg hc21 notNil
      replace hB := hB.inS hc21 inNil
      replace hZ := Nat.le_trans hZ hc21.size
      refine ⟨.bool (y18), rfl, ?_⟩
      refine wS_pure 3 [(21, .bool (!y18)), (20, .bool (!y18)), (19, .bool (!y18))] (by kernel_rfl) ?_
      refine wS_bool (!y18) (fun hb22 => ?_) (fun hb22 => ?_)
      · have hm := condT hb22 hm
        rewrite [hb22]
        refine wS_pure 5 [(26, .bool (true)), (25, undef), (24, undef), (23, undef), (22, undef)] (by kernel_rfl) ?_
        refine wS_end (by rfl) ?_
        refine eX_then ?_
        refine cW_prune [(1, .pointer (some ⟨b4, 0, none⟩)), (26, .bool (true))] (by kernel_rfl) (by kernel_rfl) (fun a23 => ?_)
        refine cW_cond_t (by kernel_rfl) ?_
        refine cW_seq ?_
        refine cW_region ?_
        refine wS_pure 1 [(2, .bool (false))] (by kernel_rfl) ?_
        refine wS_end (by rfl) ?_
        refine eX_then ?_
        refine cW_ret ?_
        refine eX_then_ret ?_
        have hq : (some false : Option ((Bool))) = some _ := hm
        replace hq := someE hq
        subst hq
        refine eX_ret (vs := [.bool (false)]) [.tmp 2] (by rfl) ⟨by (show lkE _ _ _ = _); kernel_rfl, trivial⟩ ?_
        exact ⟨rfl, hB⟩
      · have hm := condF hb22 hm
        rewrite [hb22]
        refine wS_pure 1 [(22, .pointer (some ⟨b4, 2, none⟩))] (by kernel_rfl) ?_
        refine wS_load1 (d := 23) (T := 37) (ad := ⟨b4, 2, none⟩) (v := .slice A0_2 (l0_2).length cap0_2) (by kernel_rfl) vt37 ((F7).cell 2) ?_
        obtain ⟨y24, hy25, hm⟩ := bindE hm
        refine wS_calls (d := 24) (f := 84) (vs := [.pointer (some ⟨b4, 0, none⟩), .slice A0_2 (l0_2).length cap0_2, .int .i64 (3)]) (by kernel_rfl) ent84 (c_impl_Wiring_pairsOk_bimplWiring hy25 F0_1 F0_2 F0_3 F7 F0_2) ?_
        rintro _ w26 ⟨rfl, hc27⟩
        replace F0_1 := F0_1.chg hc27 Dj.nil
        replace F0_2 := F0_2.chg hc27 Dj.nil
        replace F0_3 := F0_3.chg hc27 Dj.nil
        replace F7 := F7.chg hc27 notNil
        replace hB := hB.inS hc27 inNil
        replace hZ := Nat.le_trans hZ hc27.size
        refine ⟨.bool (y24), rfl, ?_⟩
        refine wS_pure 2 [(26, .bool (!y24)), (25, .bool (!y24))] (by kernel_rfl) ?_
        refine wS_end (by rfl) ?_
        refine eX_then ?_
        refine cW_prune [(1, .pointer (some ⟨b4, 0, none⟩)), (26, .bool (!y24))] (by kernel_rfl) (by kernel_rfl) (fun a28 => ?_)
        refine cW_cond (t := !y24) (by kernel_rfl) (fun hb29 => ?_) (fun hb29 => ?_)
        · have hm := condT hb29 hm
          refine cW_seq ?_
          refine cW_region ?_
          refine wS_pure 1 [(2, .bool (false))] (by kernel_rfl) ?_
          refine wS_end (by rfl) ?_
          refine eX_then ?_
          refine cW_ret ?_
          refine eX_then_ret ?_
          have hq : (some false : Option ((Bool))) = some _ := hm
          replace hq := someE hq
          subst hq
          refine eX_ret (vs := [.bool (false)]) [.tmp 2] (by rfl) ⟨by (show lkE _ _ _ = _); kernel_rfl, trivial⟩ ?_
          exact ⟨rfl, hB⟩
        · have hm := condF hb29 hm
          refine cW_skip ?_
          refine eX_then ?_
          refine cW_seq ?_
          refine cW_seq ?_
          refine cW_region ?_
          refine wS_pure 1 [(27, .pointer (some ⟨b4, 2, none⟩))] (by kernel_rfl) ?_
          refine wS_load1 (d := 28) (T := 37) (ad := ⟨b4, 2, none⟩) (v := .slice A0_2 (l0_2).length cap0_2) (by kernel_rfl) vt37 ((F7).cell 2) ?_
          obtain ⟨y30, hy31, hm⟩ := bindE hm
          refine wS_calls (d := 29) (f := 85) (vs := [.slice A0_2 (l0_2).length cap0_2, .func (.func 86) #[] #[]]) (by kernel_rfl) ent85 (c_slices_ContainsFunc_int64_int64_impl_ValidWiring_1 hy31 F0_2) ?_
          rintro _ w32 ⟨rfl, hc33⟩
          replace F0_1 := F0_1.chg hc33 Dj.nil
          replace F0_2 := F0_2.chg hc33 Dj.nil
          replace F0_3 := F0_3.chg hc33 Dj.nil
          replace F7 := F7.chg hc33 notNil
          replace hB := hB.inS hc33 inNil
          replace hZ := Nat.le_trans hZ hc33.size
          refine ⟨.bool (y30), rfl, ?_⟩
          refine wS_end (by rfl) ?_
          refine eX_then ?_
          refine cW_cond (t := y30) (by kernel_rfl) (fun hb34 => ?_) (fun hb34 => ?_)
          · have hm := condT hb34 hm
            refine cW_seq ?_
            refine cW_region ?_
            refine wS_pure 1 [(2, .bool (false))] (by kernel_rfl) ?_
            refine wS_end (by rfl) ?_
            refine eX_then ?_
            refine cW_ret ?_
            refine eX_then_ret ?_
            have hq : (some false : Option ((Bool))) = some _ := hm
            replace hq := someE hq
            subst hq
            refine eX_ret (vs := [.bool (false)]) [.tmp 2] (by rfl) ⟨by (show lkE _ _ _ = _); kernel_rfl, trivial⟩ ?_
            exact ⟨rfl, hB⟩
          · have hm := condF hb34 hm
            refine cW_skip ?_
            refine eX_then ?_
            refine cW_seq ?_
            refine cW_region ?_
            refine wS_pure 1 [(30, .pointer (some ⟨b4, 3, none⟩))] (by kernel_rfl) ?_
            refine wS_load1 (d := 31) (T := 38) (ad := ⟨b4, 3, none⟩) (v := .slice A0_3 (l0_3).length cap0_3) (by kernel_rfl) vt38 ((F7).cell 3) ?_
            obtain ⟨y35, hy36, hm⟩ := bindE hm
            refine wS_calls (d := 32) (f := 87) (vs := [.slice A0_3 (l0_3).length cap0_3, .func (.func 88) #[] #[]]) (by kernel_rfl) ent87 (c_slices_ContainsFunc_int64_int64_impl_ValidWiring_2 hy36 F0_3) ?_
            rintro _ w37 ⟨rfl, hc38⟩
            replace F0_1 := F0_1.chg hc38 Dj.nil
            replace F0_2 := F0_2.chg hc38 Dj.nil
            replace F0_3 := F0_3.chg hc38 Dj.nil
            replace F7 := F7.chg hc38 notNil
            replace hB := hB.inS hc38 inNil
            replace hZ := Nat.le_trans hZ hc38.size
            refine ⟨.bool (y35), rfl, ?_⟩
            refine wS_pure 2 [(2, .bool (!y35)), (33, .bool (!y35))] (by kernel_rfl) ?_
            refine wS_end (by rfl) ?_
            refine eX_then ?_
            refine cW_ret ?_
            have hq : (some (!y35) : Option ((Bool))) = some _ := hm
            replace hq := someE hq
            subst hq
            refine eX_ret (vs := [.bool (!y35)]) [.tmp 2] (by rfl) ⟨by (show lkE _ _ _ = _); kernel_rfl, trivial⟩ ?_
            exact ⟨rfl, hB⟩

set_option maxRecDepth 100000 in
/-- laws.eqInt64S -/
theorem c_laws_eqInt64S {w0 : World} {l0 : List (Int)} {A0 : Option Addr} {cap0 : Nat} {fp0 : List Nat} {l1 : List (Int)} {A1 : Option Addr} {cap1 : Nat} {fp1 : List Nat} {r : (Bool)} (hm : m_laws_eqInt64S l0 l1 = some r) (F0 : Sl 1 encI w0 fp0 A0 l0) (F1 : Sl 1 encI w0 fp1 A1 l1) :
    Calls Try.prog 48 #[.slice A0 (l0).length cap0, .slice A1 (l1).length cap1] w0 fun e w' => e = .returned (.bool (r)) ∧ Chg [] w0 w' := by
  have L0 := F0.low
  have L1 := F1.low
  have hB : Chg [] w0 w0 := Chg.refl _ _
  have hZ := Nat.le_refl w0.heap.size
  unfold m_laws_eqInt64S at hm
  refine enterE (N := 26) Try.func48 (by rfl) Try.ntmps48 (by simp) [(0, .slice A0 (l0).length cap0), (1, .slice A1 (l1).length cap1)] (by rfl) (by kernel_rfl) (fun a => ?_)
  refine cW_seq ?_
  refine cW_region ?_
  refine wS_pure 1 [(4, .bool (false))] (by kernel_rfl) ?_
  refine wS_end (by rfl) ?_
  refine eX_then ?_
  refine cW_seq ?_
  refine cW_seq ?_
  refine cW_region ?_
  refine wS_pure 5 [(10, .bool ((((l0).length : Int)) != (((l1).length : Int)))), (9, .int .i64 (((l1).length : Int))), (8, .slice A1 (l1).length cap1), (7, .int .i64 (((l0).length : Int))), (6, .slice A0 (l0).length cap0)] (by kernel_rfl) ?_
  refine wS_end (by rfl) ?_
  refine eX_then ?_
  refine cW_cond (t := (((l0).length : Int)) != (((l1).length : Int))) (by kernel_rfl) (fun hb3 => ?_) (fun hb3 => ?_)
  · have hm := condT hb3 hm
    refine cW_seq ?_
    refine cW_region ?_
    refine wS_pure 1 [(4, .bool (false))] (by kernel_rfl) ?_
    refine wS_end (by rfl) ?_
    refine eX_then ?_
    refine cW_ret ?_
    refine eX_then_ret ?_
    have hq : (some false : Option ((Bool))) = some _ := hm
    replace hq := someE hq
    subst hq
    refine eX_ret (vs := [.bool (false)]) [.tmp 4] (by rfl) ⟨by (show lkE _ _ _ = _); kernel_rfl, trivial⟩ ?_
    exact ⟨rfl, hB⟩
  · have hm := condF hb3 hm
    refine cW_skip ?_
    refine eX_then ?_
    refine cW_seq ?_
    refine cW_seq ?_
    refine cW_region ?_
    refine wS_pure 1 [(5, .int .i64 (0))] (by kernel_rfl) ?_
    refine wS_end (by rfl) ?_
    refine eX_then ?_
    obtain ⟨r54, hr55, hm⟩ := bindE hm
    have hm56 := hm
    refine cW_cut (fun a' w' => Sum.inl (()) = r54 ∧ Fr 26 [] a' ∧ Chg [] w0 w' ∧ w0.heap.size ≤ w'.heap.size) ?_ ?_
    · refine cW_block ?_
      refine cW_loop _ (fun (s57 : Int) a' w' => ∃ x50 : Int, x50 = s57 ∧ Fr 26 [(0, .slice A0 (l0).length cap0), (1, .slice A1 (l1).length cap1), (5, .int .i64 (x50))] a' ∧ Sl 1 encI w' fp0 A0 l0 ∧ Sl 1 encI w' fp1 A1 l1 ∧ Chg [] w0 w' ∧ w0.heap.size ≤ w'.heap.size) hr55 (fun hst => ⟨0, rfl, Fr.of hst (by kernel_rfl), F0, F1, hB, hZ⟩) ?_
      rintro _ c58 a' w49 ⟨x50, rfl, hF51, F52, F53, hB, hZ⟩ hx59
      refine Fr.goOn hF51 (by kernel_rfl) ?_
      have hm := hx59
      unfold m_laws_eqInt64S_s1 at hm
      refine cW_seq ?_
      refine cW_seq ?_
      refine cW_region ?_
      refine wS_pure 4 [(14, .bool (decide (x50 < (((l0).length : Int))))), (13, .int .i64 (((l0).length : Int))), (12, .slice A0 (l0).length cap0), (11, .int .i64 (x50))] (by kernel_rfl) ?_
      refine wS_end (by rfl) ?_
      refine eX_then ?_
      refine cW_cond (t := decide (x50 < (((l0).length : Int)))) (by kernel_rfl) (fun hb60 => ?_) (fun hb60 => ?_)
      · have hm := condT hb60 hm
        refine cW_skip ?_
        refine eX_then ?_
        refine cW_seq ?_
        refine cW_block ?_
        refine cW_seq ?_
        refine cW_drawnTail [] 8 (by kernel_rfl) (by kernel_rfl) (fun w69 hc70 => ?_)
        replace F52 := F52.chg hc70 Dj.nil
        replace F53 := F53.chg hc70 Dj.nil
        replace hB := hB.inS hc70 inNil
        replace hZ := Nat.le_trans hZ hc70.size
        have hS := Chg.refl [] w69
        have Z71 := F52
        have Z72 := F53
        refine wH_take [0, 1] [1, 0] [(18, .int .i64 (x50)), (17, .slice A0 (l0).length cap0)] (by kernel_rfl) (qT (qT (qB (qT (qL (qB (qT (qT qZ)))))))) (by kernel_rfl) ?_
        obtain ⟨x73, hx74, hm⟩ := bindE hm
        refine wH_idx (i := 2) (d := 19) (T := 38) (A := A0) (n := (l0).length) (cap := cap0) (kd := .i64) (m := x50) (by kernel_rfl) (qT (qT (qB (qT (qL (qB (qT (qT qZ)))))))) (by kernel_rfl) (by kernel_rfl) sl38 (F52.is hx74) ?_
        refine wH_load1 (i := 3) (d := 20) (T := 2) (ad := (elA A0 1 (x50) 0)) (v := .int .i64 (x73)) (by kernel_rfl) (qT (qT (qB (qT (qL (qB (qT (qT qZ)))))))) (by kernel_rfl) (by kernel_rfl) vt2 (fun W hW => Sl.cell (Z71.chg hW Dj.nil) hx74 0 (by rfl)) ?_
        refine wH_take [4, 5] [5, 4, 3, 2, 1, 0] [(22, .int .i64 (x50)), (21, .slice A1 (l1).length cap1)] (by kernel_rfl) (qT (qT (qB (qT (qL (qB (qT (qT qZ)))))))) (by kernel_rfl) ?_
        obtain ⟨x75, hx76, hm⟩ := bindE hm
        refine wH_idx (i := 6) (d := 23) (T := 38) (A := A1) (n := (l1).length) (cap := cap1) (kd := .i64) (m := x50) (by kernel_rfl) (qT (qT (qB (qT (qL (qB (qT (qT qZ)))))))) (by kernel_rfl) (by kernel_rfl) sl38 (F53.is hx76) ?_
        refine wH_load1 (i := 7) (d := 24) (T := 2) (ad := (elA A1 1 (x50) 0)) (v := .int .i64 (x75)) (by kernel_rfl) (qT (qT (qB (qT (qL (qB (qT (qT qZ)))))))) (by kernel_rfl) (by kernel_rfl) vt2 (fun W hW => Sl.cell (Z72.chg hW Dj.nil) hx76 0 (by rfl)) ?_
        refine wH_done (by kernel_rfl) ?_
        refine eX_tail ?_
        refine wS_pure 1 [(25, .bool (x73 != x75))] (by kernel_rfl) ?_
        refine wS_end (by rfl) ?_
        refine eX_then ?_
        refine cW_cond (t := x73 != x75) (by kernel_rfl) (fun hb77 => ?_) (fun hb77 => ?_)
        · have hm := condT hb77 hm
          refine cW_seq ?_
          refine cW_region ?_
          refine wS_pure 1 [(4, .bool (false))] (by kernel_rfl) ?_
          refine wS_end (by rfl) ?_
          refine eX_then ?_
          refine cW_ret ?_
          refine eX_block_ret ?_
          refine eX_then_ret ?_
          have hq : (some (Ctl.out (Sum.inr false)) : Option (Ctl (Int) (Sum (Unit) ((Bool))))) = some _ := hm
          replace hq := someE hq
          subst hq
          refine eX_outR hx59 (fun hr => ?_)
          subst hr
          refine eX_block_ret ?_
          refine eX_then_ret ?_
          refine eX_then_ret ?_
          have hq : (some false : Option ((Bool))) = some _ := hm56
          replace hq := someE hq
          subst hq
          refine eX_ret (vs := [.bool (false)]) [.tmp 4] (by rfl) ⟨by (show lkE _ _ _ = _); kernel_rfl, trivial⟩ ?_
          exact ⟨rfl, hB⟩
        · have hm := condF hb77 hm
          refine cW_skip ?_
          refine eX_block ?_
          refine eX_then ?_
          refine cW_region ?_
          refine wS_pure 3 [(5, .int .i64 (wr (x50 + 1))), (16, .int .i64 (wr (x50 + 1))), (15, .int .i64 (x50))] (by kernel_rfl) ?_
          refine wS_end (by rfl) ?_
          have hq : (some (Ctl.next (wr (x50 + 1))) : Option (Ctl (Int) (Sum (Unit) ((Bool))))) = some _ := hm
          replace hq := someE hq
          subst hq
          exact eX_next hx59 (fun hst => ⟨wr (x50 + 1), rfl, Fr.of hst (by kernel_rfl), F52, F53, hB, hZ⟩)
      · have hm := condF hb60 hm
        refine cW_exit ?_
        refine eX_then_exit ?_
        have hq : (some (Ctl.out (Sum.inl (()))) : Option (Ctl (Int) (Sum (Unit) ((Bool))))) = some _ := hm
        replace hq := someE hq
        subst hq
        refine eX_outX hx59 (fun hr78 => ?_)
        replace hr78 := hr78.symm
        subst hr78
        refine eX_block_hit ?_
        exact eX_J (fun hst => ⟨rfl, Fr.of hst (by kernel_rfl), hB, hZ⟩)
    · rintro a' w47 ⟨hJ, hF48, hB, hZ⟩
      subst hJ
      refine Fr.goX hF48 (by kernel_rfl) ?_
      refine eX_then ?_
      refine cW_seq ?_
      refine cW_region ?_
      refine wS_pure 1 [(4, .bool (true))] (by kernel_rfl) ?_
      refine wS_end (by rfl) ?_
      refine eX_then ?_
      refine cW_ret ?_
      have hq : (some true : Option ((Bool))) = some _ := hm
      replace hq := someE hq
      subst hq
      refine eX_ret (vs := [.bool (true)]) [.tmp 4] (by rfl) ⟨by (show lkE _ _ _ = _); kernel_rfl, trivial⟩ ?_
      exact ⟨rfl, hB⟩

set_option maxRecDepth 100000 in
/-- laws.eqInt64SS -/
theorem c_laws_eqInt64SS {w0 : World} {l0 : List (List (Int))} {A0 : Option Addr} {cap0 : Nat} {fp0 : List Nat} {l1 : List (List (Int))} {A1 : Option Addr} {cap1 : Nat} {fp1 : List Nat} {r : (Bool)} (hm : m_laws_eqInt64SS l0 l1 = some r) (F0 : SlR 1 encI w0 fp0 A0 l0) (F1 : SlR 1 encI w0 fp1 A1 l1) :
    Calls Try.prog 56 #[.slice A0 (l0).length cap0, .slice A1 (l1).length cap1] w0 fun e w' => e = .returned (.bool (r)) ∧ Chg [] w0 w' := by
  have L0 := F0.low
  have L1 := F1.low
  have hB : Chg [] w0 w0 := Chg.refl _ _
  have hZ := Nat.le_refl w0.heap.size
  unfold m_laws_eqInt64SS at hm
  refine enterE (N := 27) Try.func56 (by rfl) Try.ntmps56 (by simp) [(0, .slice A0 (l0).length cap0), (1, .slice A1 (l1).length cap1)] (by rfl) (by kernel_rfl) (fun a => ?_)
  refine cW_seq ?_
  refine cW_region ?_
  refine wS_pure 1 [(4, .bool (false))] (by kernel_rfl) ?_
  refine wS_end (by rfl) ?_
  refine eX_then ?_
  refine cW_seq ?_
  refine cW_seq ?_
  refine cW_region ?_
  refine wS_pure 5 [(10, .bool ((((l0).length : Int)) != (((l1).length : Int)))), (9, .int .i64 (((l1).length : Int))), (8, .slice A1 (l1).length cap1), (7, .int .i64 (((l0).length : Int))), (6, .slice A0 (l0).length cap0)] (by kernel_rfl) ?_
  refine wS_end (by rfl) ?_
  refine eX_then ?_
  refine cW_cond (t := (((l0).length : Int)) != (((l1).length : Int))) (by kernel_rfl) (fun hb3 => ?_) (fun hb3 => ?_)
  · have hm := condT hb3 hm
    refine cW_seq ?_
    refine cW_region ?_
    refine wS_pure 1 [(4, .bool (false))] (by kernel_rfl) ?_
    refine wS_end (by rfl) ?_
    refine eX_then ?_
    refine cW_ret ?_
    refine eX_then_ret ?_
    have hq : (some false : Option ((Bool))) = some _ := hm
    replace hq := someE hq
    subst hq
    refine eX_ret (vs := [.bool (false)]) [.tmp 4] (by rfl) ⟨by (show lkE _ _ _ = _); kernel_rfl, trivial⟩ ?_
    exact ⟨rfl, hB⟩
  · have hm := condF hb3 hm
    refine cW_skip ?_
    refine eX_then ?_
    refine cW_seq ?_
    refine cW_seq ?_
    refine cW_region ?_
    refine wS_pure 1 [(5, .int .i64 (0))] (by kernel_rfl) ?_
    refine wS_end (by rfl) ?_
    refine eX_then ?_
    obtain ⟨r118, hr119, hm⟩ := bindE hm
    have hm120 := hm
    refine cW_cut (fun a' w' => Sum.inl (()) = r118 ∧ Fr 27 [] a' ∧ Chg [] w0 w' ∧ w0.heap.size ≤ w'.heap.size) ?_ ?_
    · refine cW_block ?_
      refine cW_loop _ (fun (s121 : Int) a' w' => ∃ x114 : Int, x114 = s121 ∧ Fr 27 [(0, .slice A0 (l0).length cap0), (1, .slice A1 (l1).length cap1), (5, .int .i64 (x114))] a' ∧ SlR 1 encI w' fp0 A0 l0 ∧ SlR 1 encI w' fp1 A1 l1 ∧ Chg [] w0 w' ∧ w0.heap.size ≤ w'.heap.size) hr119 (fun hst => ⟨0, rfl, Fr.of hst (by kernel_rfl), F0, F1, hB, hZ⟩) ?_
      rintro _ c122 a' w113 ⟨x114, rfl, hF115, F116, F117, hB, hZ⟩ hx123
      refine Fr.goOn hF115 (by kernel_rfl) ?_
      have hm := hx123
      unfold m_laws_eqInt64SS_s1 at hm
      refine cW_seq ?_
      refine cW_seq ?_
      refine cW_region ?_
      refine wS_pure 4 [(14, .bool (decide (x114 < (((l0).length : Int))))), (13, .int .i64 (((l0).length : Int))), (12, .slice A0 (l0).length cap0), (11, .int .i64 (x114))] (by kernel_rfl) ?_
      refine wS_end (by rfl) ?_
      refine eX_then ?_
      refine cW_cond (t := decide (x114 < (((l0).length : Int)))) (by kernel_rfl) (fun hb124 => ?_) (fun hb124 => ?_)
      · have hm := condT hb124 hm
        refine cW_skip ?_
        refine eX_then ?_
        refine cW_seq ?_
        refine cW_block ?_
        refine cW_seq ?_
        refine cW_drawnTail [] 8 (by kernel_rfl) (by kernel_rfl) (fun w149 hc150 => ?_)
        replace F116 := F116.chg hc150 Dj.nil
        replace F117 := F117.chg hc150 Dj.nil
        replace hB := hB.inS hc150 inNil
        replace hZ := Nat.le_trans hZ hc150.size
        have hS := Chg.refl [] w149
        have Z151 := F116
        have Z152 := F117
        refine wH_take [0, 1] [1, 0] [(18, .int .i64 (x114)), (17, .slice A0 (l0).length cap0)] (by kernel_rfl) (qT (qT (qB (qT (qL (qB (qT (qT qZ)))))))) (by kernel_rfl) ?_
        obtain ⟨x153, hx154, hm⟩ := bindE hm
        refine wH_idx (i := 2) (d := 19) (T := 37) (A := A0) (n := (l0).length) (cap := cap0) (kd := .i64) (m := x114) (by kernel_rfl) (qT (qT (qB (qT (qL (qB (qT (qT qZ)))))))) (by kernel_rfl) (by kernel_rfl) sl37 (F116.is hx154) ?_
        obtain ⟨A155, cap156, hc158, F157, K159⟩ := SlR.row Z151 hx154
        refine wH_load1 (i := 3) (d := 20) (T := 38) (ad := (elA A0 1 (x114) 0)) (v := .slice A155 (x153).length cap156) (by kernel_rfl) (qT (qT (qB (qT (qL (qB (qT (qT qZ)))))))) (by kernel_rfl) (by kernel_rfl) vt38 (fun W hW => hW.keep hc158) ?_
        refine wH_take [4, 5] [5, 4, 3, 2, 1, 0] [(22, .int .i64 (x114)), (21, .slice A1 (l1).length cap1)] (by kernel_rfl) (qT (qT (qB (qT (qL (qB (qT (qT qZ)))))))) (by kernel_rfl) ?_
        obtain ⟨x161, hx162, hm⟩ := bindE hm
        refine wH_idx (i := 6) (d := 23) (T := 37) (A := A1) (n := (l1).length) (cap := cap1) (kd := .i64) (m := x114) (by kernel_rfl) (qT (qT (qB (qT (qL (qB (qT (qT qZ)))))))) (by kernel_rfl) (by kernel_rfl) sl37 (F117.is hx162) ?_
        obtain ⟨A163, cap164, hc166, F165, K167⟩ := SlR.row Z152 hx162
        refine wH_load1 (i := 7) (d := 24) (T := 38) (ad := (elA A1 1 (x114) 0)) (v := .slice A163 (x161).length cap164) (by kernel_rfl) (qT (qT (qB (qT (qL (qB (qT (qT qZ)))))))) (by kernel_rfl) (by kernel_rfl) vt38 (fun W hW => hW.keep hc166) ?_
        refine wH_done (by kernel_rfl) ?_
        refine eX_tail ?_
        obtain ⟨y169, hy170, hm⟩ := bindE hm
        refine wS_calls (d := 25) (f := 48) (vs := [.slice A155 (x153).length cap156, .slice A163 (x161).length cap164]) (by kernel_rfl) ent48 (c_laws_eqInt64S hy170 F157 F165) ?_
        rintro _ w171 ⟨rfl, hc172⟩
        replace F116 := F116.chg hc172 Dj.nil
        replace F117 := F117.chg hc172 Dj.nil
        replace F157 := F157.chg hc172 Dj.nil
        replace F165 := F165.chg hc172 Dj.nil
        replace hB := hB.inS hc172 inNil
        replace hZ := Nat.le_trans hZ hc172.size
        refine ⟨.bool (y169), rfl, ?_⟩
        refine wS_pure 1 [(26, .bool (!y169))] (by kernel_rfl) ?_
        refine wS_end (by rfl) ?_
        refine eX_then ?_
        refine cW_cond (t := !y169) (by kernel_rfl) (fun hb173 => ?_) (fun hb173 => ?_)
        · have hm := condT hb173 hm
          refine cW_seq ?_
          refine cW_region ?_
          refine wS_pure 1 [(4, .bool (false))] (by kernel_rfl) ?_
          refine wS_end (by rfl) ?_
          refine eX_then ?_
          refine cW_ret ?_
          refine eX_block_ret ?_
          refine eX_then_ret ?_
          have hq : (some (Ctl.out (Sum.inr false)) : Option (Ctl (Int) (Sum (Unit) ((Bool))))) = some _ := hm
          replace hq := someE hq
          subst hq
          refine eX_outR hx123 (fun hr => ?_)
          subst hr
          refine eX_block_ret ?_
          refine eX_then_ret ?_
          refine eX_then_ret ?_
          have hq : (some false : Option ((Bool))) = some _ := hm120
          replace hq := someE hq
          subst hq
          refine eX_ret (vs := [.bool (false)]) [.tmp 4] (by rfl) ⟨by (show lkE _ _ _ = _); kernel_rfl, trivial⟩ ?_
          exact ⟨rfl, hB⟩
        · have hm := condF hb173 hm
          refine cW_skip ?_
          refine eX_block ?_
          refine eX_then ?_
          refine cW_region ?_
          refine wS_pure 3 [(5, .int .i64 (wr (x114 + 1))), (16, .int .i64 (wr (x114 + 1))), (15, .int .i64 (x114))] (by kernel_rfl) ?_
          refine wS_end (by rfl) ?_
          have hq : (some (Ctl.next (wr (x114 + 1))) : Option (Ctl (Int) (Sum (Unit) ((Bool))))) = some _ := hm
          replace hq := someE hq
          subst hq
          exact eX_next hx123 (fun hst => ⟨wr (x114 + 1), rfl, Fr.of hst (by kernel_rfl), F116, F117, hB, hZ⟩)
      · have hm := condF hb124 hm
        refine cW_exit ?_
        refine eX_then_exit ?_
        have hq : (some (Ctl.out (Sum.inl (()))) : Option (Ctl (Int) (Sum (Unit) ((Bool))))) = some _ := hm
        replace hq := someE hq
        subst hq
        refine eX_outX hx123 (fun hr174 => ?_)
        replace hr174 := hr174.symm
        subst hr174
        refine eX_block_hit ?_
        exact eX_J (fun hst => ⟨rfl, Fr.of hst (by kernel_rfl), hB, hZ⟩)
    · rintro a' w111 ⟨hJ, hF112, hB, hZ⟩
      subst hJ
      refine Fr.goX hF112 (by kernel_rfl) ?_
      refine eX_then ?_
      refine cW_seq ?_
      refine cW_region ?_
      refine wS_pure 1 [(4, .bool (true))] (by kernel_rfl) ?_
      refine wS_end (by rfl) ?_
      refine eX_then ?_
      refine cW_ret ?_
      have hq : (some true : Option ((Bool))) = some _ := hm
      replace hq := someE hq
      subst hq
      refine eX_ret (vs := [.bool (true)]) [.tmp 4] (by rfl) ⟨by (show lkE _ _ _ = _); kernel_rfl, trivial⟩ ?_
      exact ⟨rfl, hB⟩

end Go.Proofs.Ytajnjbmniobjhaa
