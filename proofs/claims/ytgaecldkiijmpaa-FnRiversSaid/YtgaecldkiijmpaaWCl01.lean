/- Printed walks: slices.Compare[[]int64,int64]. -/
import Derived.Test.YtgaecldkiijmpaaProg
import Derived.Test.YtgaecldkiijmpaaMod
import Derived.Test.YtgaecldkiijmpaaEqs
import Derived.Test.YtgaecldkiijmpaaWCmp01
set_option linter.unusedSimpArgs false
set_option linter.unusedVariables false
namespace Go.Proofs.Ytgaecldkiijmpaa
open Go.RowKit
attribute [local irreducible] wS cW eX wH

theorem sl25 : SlTy Try.prog 25 2 1 := ⟨Try.underlying25, by kernel_rfl⟩

set_option maxRecDepth 100000 in
/-- slices.Compare[[]int64,int64] -/
theorem c_slices_Compare_int64_int64 {w0 : World} {l0 : List (Int)} {A0 : Option Addr} {cap0 : Nat} {fp0 : List Nat} {l1 : List (Int)} {A1 : Option Addr} {cap1 : Nat} {fp1 : List Nat} {r : (Int)} (hm : m_slices_Compare_int64_int64 l0 l1 = some r) (F0 : Sl 1 encI w0 fp0 A0 l0) (F1 : Sl 1 encI w0 fp1 A1 l1) :
    Calls Try.prog 157 #[.slice A0 (l0).length cap0, .slice A1 (l1).length cap1] w0 fun e w' => e = .returned (.int .i64 (r)) ∧ Chg [] w0 w' := by
  have L0 := F0.low
  have L1 := F1.low
  have hB : Chg [] w0 w0 := Chg.refl _ _
  have hZ := Nat.le_refl w0.heap.size
  unfold m_slices_Compare_int64_int64 at hm
  refine enterE (N := 36) Try.func157 (by rfl) Try.ntmps157 (by simp) [(0, .slice A0 (l0).length cap0), (1, .slice A1 (l1).length cap1)] (by rfl) (by kernel_rfl) (fun a => ?_)
  refine cW_seq ?_
  refine cW_region ?_
  refine wS_pure 1 [(4, .int .i64 (0))] (by kernel_rfl) ?_
  refine wS_end (by rfl) ?_
  refine eX_then ?_
  refine cW_seq ?_
  refine cW_seq ?_
  refine cW_region ?_
  refine wS_pure 3 [(11, .int .i64 (0)), (10, .int .i64 (((l0).length : Int))), (9, .slice A0 (l0).length cap0)] (by kernel_rfl) ?_
  refine wS_end (by rfl) ?_
  refine eX_then ?_
  obtain ⟨r43, hr44, hm⟩ := bindE hm
  have hm45 := hm
  refine cW_cut (fun a' w' => Sum.inl (()) = r43 ∧ Fr 36 [(0, .slice A0 (l0).length cap0), (1, .slice A1 (l1).length cap1)] a' ∧ Sl 1 encI w' fp0 A0 l0 ∧ Sl 1 encI w' fp1 A1 l1 ∧ Chg [] w0 w' ∧ w0.heap.size ≤ w'.heap.size) ?_ ?_
  · refine cW_block ?_
    refine cW_loop _ (fun (s46 : Int) a' w' => ∃ x39 : Int, x39 = s46 ∧ Fr 36 [(0, .slice A0 (l0).length cap0), (1, .slice A1 (l1).length cap1), (9, .slice A0 (l0).length cap0), (10, .int .i64 (((l0).length : Int))), (11, .int .i64 (x39))] a' ∧ Sl 1 encI w' fp0 A0 l0 ∧ Sl 1 encI w' fp1 A1 l1 ∧ Chg [] w0 w' ∧ w0.heap.size ≤ w'.heap.size) hr44 (fun hst => ⟨0, rfl, Fr.of hst (by kernel_rfl), F0, F1, hB, hZ⟩) ?_
    rintro _ c47 a' w38 ⟨x39, rfl, hF40, F41, F42, hB, hZ⟩ hx48
    refine Fr.goOn hF40 (by kernel_rfl) ?_
    have hm := hx48
    unfold m_slices_Compare_int64_int64_s1 at hm
    refine cW_seq ?_
    refine cW_region ?_
    refine wS_pure 1 [(12, .bool (decide (x39 < (((l0).length : Int)))))] (by kernel_rfl) ?_
    refine wS_end (by rfl) ?_
    refine eX_then ?_
    refine cW_seq ?_
    refine cW_cond (t := decide (x39 < (((l0).length : Int)))) (by kernel_rfl) (fun hb49 => ?_) (fun hb49 => ?_)
    · have hm := condT hb49 hm
      refine cW_skip ?_
      refine eX_then ?_
      refine cW_seq ?_
      refine cW_block ?_
      refine cW_seq ?_
      refine cW_region ?_
      refine wS_pure 1 [(13, .int .i64 (x39))] (by kernel_rfl) ?_
      obtain ⟨x50, hx51, hm⟩ := bindE hm
      refine wS_idx (d := 14) (T := 25) (A := A0) (n := (l0).length) (cap := cap0) (kd := .i64) (m := x39) (by kernel_rfl) sl25 (F41.is hx51) ?_
      refine wS_load1 (d := 15) (T := 2) (ad := (elA A0 1 (x39) 0)) (v := .int .i64 (x50)) (by kernel_rfl) vt2 (Sl.cell F41 hx51 0 (by rfl)) ?_
      refine wS_pure 2 [(6, .int .i64 (x50)), (5, .int .i64 (x39))] (by kernel_rfl) ?_
      refine wS_end (by rfl) ?_
      refine eX_then ?_
      refine cW_seq ?_
      refine cW_seq ?_
      refine cW_region ?_
      refine wS_pure 4 [(19, .bool (decide (x39 ≥ (((l1).length : Int))))), (18, .int .i64 (((l1).length : Int))), (17, .slice A1 (l1).length cap1), (16, .int .i64 (x39))] (by kernel_rfl) ?_
      refine wS_end (by rfl) ?_
      refine eX_then ?_
      refine cW_cond (t := decide (x39 ≥ (((l1).length : Int)))) (by kernel_rfl) (fun hb52 => ?_) (fun hb52 => ?_)
      · have hm := condT hb52 hm
        refine cW_seq ?_
        refine cW_region ?_
        refine wS_pure 1 [(4, .int .i64 (1))] (by kernel_rfl) ?_
        refine wS_end (by rfl) ?_
        refine eX_then ?_
        refine cW_ret ?_
        refine eX_then_ret ?_
        refine eX_block_ret ?_
        refine eX_then_ret ?_
        have hq : (some (Ctl.out (Sum.inr 1)) : Option (Ctl (Int) (Sum (Unit) ((Int))))) = some _ := hm
        replace hq := someE hq
        subst hq
        refine eX_outR hx48 (fun hr => ?_)
        subst hr
        refine eX_block_ret ?_
        refine eX_then_ret ?_
        refine eX_then_ret ?_
        have hq : (some 1 : Option ((Int))) = some _ := hm45
        replace hq := someE hq
        subst hq
        refine eX_ret (vs := [.int .i64 (1)]) [.tmp 4] (by rfl) ⟨by (show lkE _ _ _ = _); kernel_rfl, trivial⟩ ?_
        exact ⟨rfl, hB⟩
      · have hm := condF hb52 hm
        refine cW_skip ?_
        refine eX_then ?_
        refine cW_seq ?_
        refine cW_region ?_
        refine wS_pure 2 [(21, .int .i64 (x39)), (20, .slice A1 (l1).length cap1)] (by kernel_rfl) ?_
        obtain ⟨x53, hx54, hm⟩ := bindE hm
        refine wS_idx (d := 22) (T := 25) (A := A1) (n := (l1).length) (cap := cap1) (kd := .i64) (m := x39) (by kernel_rfl) sl25 (F42.is hx54) ?_
        refine wS_load1 (d := 23) (T := 2) (ad := (elA A1 1 (x39) 0)) (v := .int .i64 (x53)) (by kernel_rfl) vt2 (Sl.cell F42 hx54 0 (by rfl)) ?_
        refine wS_pure 1 [(7, .int .i64 (x53))] (by kernel_rfl) ?_
        refine wS_end (by rfl) ?_
        refine eX_then ?_
        refine cW_seq ?_
        refine cW_region ?_
        refine wS_pure 2 [(25, .int .i64 (x53)), (24, .int .i64 (x50))] (by kernel_rfl) ?_
        obtain ⟨y55, hy56, hm⟩ := bindE hm
        refine wS_calls (d := 26) (f := 188) (vs := [.int .i64 (x50), .int .i64 (x53)]) (by kernel_rfl) ent188 (c_cmp_Compare_int64 hy56) ?_
        rintro _ w57 ⟨rfl, hc58⟩
        replace F41 := F41.chg hc58 Dj.nil
        replace F42 := F42.chg hc58 Dj.nil
        replace hB := hB.inS hc58 inNil
        replace hZ := Nat.le_trans hZ hc58.size
        refine ⟨.int .i64 (y55), rfl, ?_⟩
        refine wS_pure 1 [(8, .int .i64 (y55))] (by kernel_rfl) ?_
        refine wS_end (by rfl) ?_
        refine eX_then ?_
        refine cW_prune [(0, .slice A0 (l0).length cap0), (1, .slice A1 (l1).length cap1), (8, .int .i64 (y55)), (9, .slice A0 (l0).length cap0), (10, .int .i64 (((l0).length : Int))), (11, .int .i64 (x39))] (by kernel_rfl) (by kernel_rfl) (fun a59 => ?_)
        refine cW_seq ?_
        refine cW_region ?_
        refine wS_pure 2 [(28, .bool (y55 != 0)), (27, .int .i64 (y55))] (by kernel_rfl) ?_
        refine wS_end (by rfl) ?_
        refine eX_then ?_
        refine cW_cond (t := y55 != 0) (by kernel_rfl) (fun hb60 => ?_) (fun hb60 => ?_)
        · have hm := condT hb60 hm
          refine cW_seq ?_
          refine cW_region ?_
          refine wS_pure 2 [(4, .int .i64 (y55)), (29, .int .i64 (y55))] (by kernel_rfl) ?_
          refine wS_end (by rfl) ?_
          refine eX_then ?_
          refine cW_ret ?_
          refine eX_block_ret ?_
          refine eX_then_ret ?_
          have hq : (some (Ctl.out (Sum.inr y55)) : Option (Ctl (Int) (Sum (Unit) ((Int))))) = some _ := hm
          replace hq := someE hq
          subst hq
          refine eX_outR hx48 (fun hr => ?_)
          subst hr
          refine eX_block_ret ?_
          refine eX_then_ret ?_
          refine eX_then_ret ?_
          have hq : (some y55 : Option ((Int))) = some _ := hm45
          replace hq := someE hq
          subst hq
          refine eX_ret (vs := [.int .i64 (y55)]) [.tmp 4] (by rfl) ⟨by (show lkE _ _ _ = _); kernel_rfl, trivial⟩ ?_
          exact ⟨rfl, hB⟩
        · have hm := condF hb60 hm
          refine cW_skip ?_
          refine eX_block ?_
          refine eX_then ?_
          refine cW_region ?_
          refine wS_pure 2 [(11, .int .i64 (wr (x39 + 1))), (30, .int .i64 (wr (x39 + 1)))] (by kernel_rfl) ?_
          refine wS_end (by rfl) ?_
          have hq : (some (Ctl.next (wr (x39 + 1))) : Option (Ctl (Int) (Sum (Unit) ((Int))))) = some _ := hm
          replace hq := someE hq
          subst hq
          exact eX_next hx48 (fun hst => ⟨wr (x39 + 1), rfl, Fr.of hst (by kernel_rfl), F41, F42, hB, hZ⟩)
    · have hm := condF hb49 hm
      refine cW_exit ?_
      refine eX_then_exit ?_
      have hq : (some (Ctl.out (Sum.inl (()))) : Option (Ctl (Int) (Sum (Unit) ((Int))))) = some _ := hm
      replace hq := someE hq
      subst hq
      refine eX_outX hx48 (fun hr61 => ?_)
      replace hr61 := hr61.symm
      subst hr61
      refine eX_block_hit ?_
      exact eX_J (fun hst => ⟨rfl, Fr.of hst (by kernel_rfl), F41, F42, hB, hZ⟩)
  · rintro a' w34 ⟨hJ, hF35, F36, F37, hB, hZ⟩
    subst hJ
    refine Fr.goX hF35 (by kernel_rfl) ?_
    refine eX_then ?_
    refine cW_seq ?_
    refine cW_seq ?_
    refine cW_region ?_
    refine wS_pure 5 [(35, .bool (decide ((((l0).length : Int)) < (((l1).length : Int))))), (34, .int .i64 (((l1).length : Int))), (33, .slice A1 (l1).length cap1), (32, .int .i64 (((l0).length : Int))), (31, .slice A0 (l0).length cap0)] (by kernel_rfl) ?_
    refine wS_end (by rfl) ?_
    refine eX_then ?_
    refine cW_cond (t := decide ((((l0).length : Int)) < (((l1).length : Int)))) (by kernel_rfl) (fun hb62 => ?_) (fun hb62 => ?_)
    · have hm := condT hb62 hm
      refine cW_seq ?_
      refine cW_region ?_
      refine wS_pure 1 [(4, .int .i64 ((-1)))] (by kernel_rfl) ?_
      refine wS_end (by rfl) ?_
      refine eX_then ?_
      refine cW_ret ?_
      refine eX_then_ret ?_
      have hq : (some ((-1)) : Option ((Int))) = some _ := hm
      replace hq := someE hq
      subst hq
      refine eX_ret (vs := [.int .i64 ((-1))]) [.tmp 4] (by rfl) ⟨by (show lkE _ _ _ = _); kernel_rfl, trivial⟩ ?_
      exact ⟨rfl, hB⟩
    · have hm := condF hb62 hm
      refine cW_skip ?_
      refine eX_then ?_
      refine cW_seq ?_
      refine cW_region ?_
      refine wS_pure 1 [(4, .int .i64 (0))] (by kernel_rfl) ?_
      refine wS_end (by rfl) ?_
      refine eX_then ?_
      refine cW_ret ?_
      have hq : (some 0 : Option ((Int))) = some _ := hm
      replace hq := someE hq
      subst hq
      refine eX_ret (vs := [.int .i64 (0)]) [.tmp 4] (by rfl) ⟨by (show lkE _ _ _ = _); kernel_rfl, trivial⟩ ?_
      exact ⟨rfl, hB⟩

end Go.Proofs.Ytgaecldkiijmpaa
